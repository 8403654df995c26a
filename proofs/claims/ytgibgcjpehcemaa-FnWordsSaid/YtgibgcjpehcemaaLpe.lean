/- Walk of the law on permutations, their inverses, words and ranks. -/
import Derived.Test.YtgibgcjpehcemaaDel
import Derived.Test.YtgibgcjpehcemaaLlt
import Derived.Test.YtgibgcjpehcemaaPrk
import Derived.Test.YtgibgcjpehcemaaRwc
namespace Go.Proofs.Ytgibgcjpehcemaa
open Go.RowKit

/-- a call with one argument, wanted -/
theorem step_callw {P : Program} {w : World} {ops : Array Oper} {o : Oper} {a : Act} {K : Act → World → Prop} {Q : Exit → Act → World → Prop} {E : Prop} {f : FuncId} {u : Value} {T : TypeId} {R : Ending → World → Prop}
    (hc : Calls P f #[u] w R) (hf : ∀ w, (callFunc f #[u]).run P w = .ok (.enter f #[u]) w) (hw : Region.wanted o (yielded ops a.tmps) = true) (x : Operand)
    (ho : o.op = .call { callee := .value (.func f), args := #[x], argTypes := #[T] }) (hx : a.eval x = u)
    (hK : ∀ e w', R e w' → ∃ v, e = .returned v ∧ K (a.put o.dst v) w') : if Region.wanted o (yielded ops a.tmps) = true then Oper.wp P o a w K Q else E := by
  rw [if_pos hw]
  unfold Oper.wp
  have hr : (execOp a.eval o).run P w = .ok (.enter f #[u]) w := by
    have hx' : Act.eval a x = u := hx
    have h0 : a.eval (.func f) = .func (.func f) #[] #[] := rfl
    simp [execOp, ho, resolve, invoke, hx', h0, Deferred.ofValue, hf]
  rw [hr]
  refine hc.mono ?_
  intro e w' hr
  obtain ⟨v, rfl, hk⟩ := hK e w' hr
  exact hk

/-- a call with two arguments, wanted -/
theorem step_callw2 {P : Program} {w : World} {ops : Array Oper} {o : Oper} {a : Act} {K : Act → World → Prop} {Q : Exit → Act → World → Prop} {E : Prop} {f : FuncId} {u1 u2 : Value} {T1 T2 : TypeId} {R : Ending → World → Prop}
    (hc : Calls P f #[u1, u2] w R) (hf : ∀ w, (callFunc f #[u1, u2]).run P w = .ok (.enter f #[u1, u2]) w) (hw : Region.wanted o (yielded ops a.tmps) = true) (x y : Operand)
    (ho : o.op = .call { callee := .value (.func f), args := #[x, y], argTypes := #[T1, T2] }) (hx : a.eval x = u1) (hy : a.eval y = u2)
    (hK : ∀ e w', R e w' → ∃ v, e = .returned v ∧ K (a.put o.dst v) w') : if Region.wanted o (yielded ops a.tmps) = true then Oper.wp P o a w K Q else E := by
  rw [if_pos hw]
  unfold Oper.wp
  have hr : (execOp a.eval o).run P w = .ok (.enter f #[u1, u2]) w := by
    have hx' : Act.eval a x = u1 := hx
    have hy' : Act.eval a y = u2 := hy
    have h0 : a.eval (.func f) = .func (.func f) #[] #[] := rfl
    simp [execOp, ho, resolve, invoke, hx', hy', h0, Deferred.ofValue, hf]
  rw [hr]
  refine hc.mono ?_
  intro e w' hr
  obtain ⟨v, rfl, hk⟩ := hK e w' hr
  exact hk

end Go.Proofs.Ytgibgcjpehcemaa

namespace Go.Proofs.Ytgibgcjpehcemaa
open Go.RowKit
open Pm
set_option linter.unusedSimpArgs false

theorem id_ok {n : Nat} (hn : n ≤ 12) (w : World) :
    Calls Try.prog 33 #[.int .i64 (n : Int)] w fun e w' => ∃ x, e = .returned (.tuple #[x, .bool true]) ∧ Reads w' x (ints (one n).1) ∧ Below w.heap.size w w' := by
  refine (IdentityI n w).mono ?_
  rintro e w' ⟨x, rfl, ho, hs⟩
  have e1 : inB (n : Int) 0 12 = true := by simp [inB]; omega
  rw [e1] at ho ⊢
  rw [← idn_val]
  exact ⟨x, rfl, by simpa [onlyIf] using ho.reads, hs⟩
theorem iv_ok {n : Nat} (hn : n ≤ 12) (A : Pm n) (v : Value) (w : World) (h : Reads w v (ints A.1)) :
    Calls Try.prog 34 #[v] w fun e w' => ∃ x, e = .returned x ∧ Reads w' x (ints (inv A).1) ∧ Below w.heap.size w w' := by
  refine (InvertI v A.1 w h).mono ?_
  rintro e w' ⟨x, rfl, ho, hs⟩
  rw [okP_pm A hn] at ho
  rw [← inv_val]
  exact ⟨x, rfl, ho.reads, hs⟩
theorem co_ok {n : Nat} (hn : n ≤ 12) (A B : Pm n) (v u : Value) (w : World) (h : Reads w v (ints A.1)) (h' : Reads w u (ints B.1)) :
    Calls Try.prog 32 #[v, u] w fun e w' => ∃ x, e = .returned (.tuple #[x, .bool true]) ∧ Reads w' x (ints (mul A B).1) ∧ Below w.heap.size w w' := by
  have e1 : (okP A.1 && okP B.1 && decide (A.1.length = B.1.length)) = true := by rw [okP_pm A hn, okP_pm B hn, A.len, B.len]; simp
  refine (ComposeI v u _ _ w h h').mono ?_
  rintro e w' ⟨x, rfl, ho, hs⟩
  rw [e1] at ho ⊢
  rw [← comp_val]
  exact ⟨x, rfl, ho.reads, hs⟩
theorem re_ok {n : Nat} (hn : n ≤ 12) (A : Pm n) (v : Value) (w : World) (h : Reads w v (ints A.1)) :
    Calls Try.prog 13 #[v] w fun e w' => ∃ x, e = .returned x ∧ Reads w' x (ints (redF A.1)) ∧ Below w.heap.size w w' := by
  refine (RedI v A.1 w h).mono ?_
  rintro e w' ⟨x, rfl, ho, hs⟩
  rw [okP_pm A hn] at ho
  exact ⟨x, rfl, ho.reads, hs⟩
theorem wo_ok {n : Nat} (hn : n ≤ 12) (A : Pm n) (v : Value) (w : World) (h : Reads w v (ints (redF A.1))) :
    Calls Try.prog 29 #[.int .i64 (n : Int), v] w fun e w' => ∃ x, e = .returned (.tuple #[x, .bool true]) ∧ Reads w' x (ints A.1) ∧ Below w.heap.size w w' := by
  refine (WordI n v _ w (by omega) h).mono ?_
  rintro e w' ⟨x, rfl, ho, hs⟩
  rw [red_takes A hn] at ho ⊢
  have e2 : wordF (n : Int).toNat (redF A.1) = A.1 := by rw [Int.toNat_natCast]; exact red_word A
  rw [e2] at ho
  exact ⟨x, rfl, ho.reads, hs⟩
theorem in_ok {n : Nat} (hn : n ≤ 12) (A : Pm n) (v : Value) (w : World) (h : Reads w v (ints A.1)) :
    Calls Try.prog 35 #[v] w fun e w' => e = .returned (.int .i64 (ni A)) ∧ Below w.heap.size w w' := by
  have := InversionsI v A.1 w h
  rwa [okP_pm A hn] at this
theorem in_len {n : Nat} (hn : n ≤ 12) (A : Pm n) (v : Value) (w : World) (h : Reads w v (ints A.1)) :
    Calls Try.prog 35 #[v] w fun e w' => e = .returned (.int .i64 ((redF A.1).length : Int)) ∧ Below w.heap.size w w' := by
  rw [(red_sorts A).2]; exact in_ok hn A v w h
theorem in_zero {n : Nat} (hn : n ≤ 12) (A : Pm n) (hd : descF A.1 = []) (v : Value) (w : World) (h : Reads w v (ints A.1)) :
    Calls Try.prog 35 #[v] w fun e w' => e = .returned (.int .i64 0) ∧ Below w.heap.size w w' := by
  have := in_ok hn A v w h
  rwa [show ni A = 0 from (desc_invs A).1 hd] at this
theorem calls_fr {P : Program} {f : FuncId} {args : Array Value} {a w : World} {v : Value} (hc : Calls P f args w fun e w' => e = .returned v ∧ Below w.heap.size w w') (h : Below a.heap.size a w) : Calls P f args w fun e w' => e = .returned v ∧ Below a.heap.size a w' :=
  hc.mono fun _ _ hh => ⟨hh.1, h.trans (hh.2.mono h.size)⟩
theorem below_drew1 {B : Nat} {a w : World} (h : Below B a w) : Below B a w.drew := h.drew
theorem calls_be {a b c : World} (h : Below a.heap.size a b) (k : Below b.heap.size b c) : Below a.heap.size a c := h.trans (k.mono h.size)
theorem in_inv {n : Nat} (hn : n ≤ 12) (A : Pm n) (v : Value) (w : World) (h : Reads w v (ints (inv A).1)) :
    Calls Try.prog 35 #[v] w fun e w' => e = .returned (.int .i64 (ni A)) ∧ Below w.heap.size w w' := by
  have := in_ok hn (inv A) v w h
  rwa [ni_inv] at this
theorem ra_ok {n : Nat} (hn : n ≤ 12) (A : Pm n) (v : Value) (w : World) (h : Reads w v (ints A.1)) :
    Calls Try.prog 37 #[v] w fun e w' => e = .returned (.int .i64 (rankF A.1)) ∧ Below w.heap.size w w' := by
  have := RankI v A.1 w h
  rwa [okP_pm A hn] at this
theorem at_ok {n : Nat} (hn : n ≤ 12) (A : Pm n) (w : World) :
    Calls Try.prog 36 #[.int .i64 (n : Int), .int .i64 (rankF A.1)] w fun e w' => ∃ x, e = .returned (.tuple #[x, .bool true]) ∧ Reads w' x (ints A.1) ∧ Below w.heap.size w w' := by
  have h0 := rank_nonneg A hn
  have h1 := rank_lt A hn
  have h2 := (fac_12 hn).2
  refine (AtI n (rankF A.1) w (by omega) (by omega)).mono ?_
  rintro e w' ⟨x, rfl, ho, hs⟩
  rw [has_rank A hn] at ho ⊢
  have e2 : atF (n : Int).toNat (rankF A.1).toNat = A.1 := by rw [Int.toNat_natCast]; exact at_rank A hn
  rw [e2] at ho
  exact ⟨x, rfl, ho.reads, hs⟩
theorem de_ok {n : Nat} (hn : n ≤ 12) (A : Pm n) (v : Value) (w : World) (h : Reads w v (ints A.1)) :
    Calls Try.prog 38 #[v] w fun e w' => ∃ x, e = .returned x ∧ Reads w' x (ints (descF A.1)) ∧ Below w.heap.size w w' := by
  refine (DescentsI v A.1 w h).mono ?_
  rintro e w' ⟨x, rfl, ho, hs⟩
  rw [okP_pm A hn] at ho
  exact ⟨x, rfl, ho.reads, hs⟩
theorem same_dec {n : Nat} (A B : Pm n) (v u : Value) (w : World) (h : Reads w v (ints A.1)) (h' : Reads w u (ints B.1)) :
    Calls Try.prog 27 #[v, u] w fun e w' => e = .returned (.bool (decide (A.1 = B.1))) ∧ Below w.heap.size w w' := a2same v u _ _ w h h'


set_option maxRecDepth 100000 in
set_option maxHeartbeats 8000000 in
theorem walk_FnPermutations (a0 : Value) (cs : List Int) (W : World) (h0 : Reads W a0 (bytes cs)) (hr : ∀ i, i < cs.length → 0 ≤ nth cs i ∧ nth cs i ≤ 255) :
    Calls Try.prog 9 #[a0] W fun e w' => e = .returned (.bool true) ∧ Below W.heap.size W w' := by
  have hb : Below W.heap.size W W := Below.refl _ _
  go_enter Try.func9, Try.ntmps9
  go_wp2_with fail
  refine (a2long a0 _ cs [] W h0 (reads_nilY W)).mono ?_
  rintro e w1 ⟨rfl, hs⟩
  replace h0 := h0.below hs
  replace hb := hb.trans (hs.mono hb.size)
  clear hs
  by_cases hl : 3000 < cs.length
  · have e : (decide (3000 < cs.length) || decide (3000 < ([] : List Int).length)) = true := by simp [hl]
    rw [e]
    go_wp2_with fail
    go_ret
    exact ⟨rfl, hb⟩
  have e : (decide (3000 < cs.length) || decide (3000 < ([] : List Int).length)) = false := by simp [hl]
  rw [e]
  go_wp2_with fail
  refine (a2perms a0 cs _ h0 hr (by omega)).mono ?_
  rintro e w2 ⟨n, u, v, A, B, rfl, hn, hu, hv, hs⟩
  replace h0 := h0.below hs
  replace hb := hb.trans (hs.mono hb.size)
  clear hs
  replace hu := hu.reads
  replace hv := hv.reads
  clear hr e
  have hlen := hu.len (P := Try.prog) 22 3 ⟨_, sliceI⟩
  rw [length_ints, A.len] at hlen
  go_wp2_with fail
  refine (id_ok hn _).mono ?_
  rintro e w3 ⟨x0, rfl, hx0, hs⟩
  replace h0 := h0.below hs
  replace hu := hu.below hs
  replace hv := hv.below hs
  replace hb := hb.trans (hs.mono hb.size)
  clear hs
  go_wp2_with fail
  refine (iv_ok hn A _ _ hu).mono ?_
  rintro e w4 ⟨x1, rfl, hx1, hs⟩
  replace h0 := h0.below hs
  replace hu := hu.below hs
  replace hv := hv.below hs
  replace hx0 := hx0.below hs
  replace hb := hb.trans (hs.mono hb.size)
  clear hs
  go_wp2_with fail
  refine (co_ok hn A (inv A) _ _ _ hu hx1).mono ?_
  rintro e w5 ⟨x2, rfl, hx2, hs⟩
  replace h0 := h0.below hs
  replace hu := hu.below hs
  replace hv := hv.below hs
  replace hx0 := hx0.below hs
  replace hx1 := hx1.below hs
  replace hb := hb.trans (hs.mono hb.size)
  clear hs
  go_wp2_with fail
  refine (re_ok hn A _ _ hu).mono ?_
  rintro e w6 ⟨x3, rfl, hx3, hs⟩
  replace h0 := h0.below hs
  replace hu := hu.below hs
  replace hv := hv.below hs
  replace hx0 := hx0.below hs
  replace hx1 := hx1.below hs
  replace hx2 := hx2.below hs
  replace hb := hb.trans (hs.mono hb.size)
  clear hs
  go_wp2_with fail
  refine (wo_ok hn A _ _ hx3).mono ?_
  rintro e w7 ⟨x4, rfl, hx4, hs⟩
  replace h0 := h0.below hs
  replace hu := hu.below hs
  replace hv := hv.below hs
  replace hx0 := hx0.below hs
  replace hx1 := hx1.below hs
  replace hx2 := hx2.below hs
  replace hx3 := hx3.below hs
  replace hb := hb.trans (hs.mono hb.size)
  clear hs
  have hlen3 := hx3.len (P := Try.prog) 22 3 ⟨_, sliceI⟩
  rw [length_ints] at hlen3
  have hl3 := hid (red_sorts A).2
  go_wp2_with fail
  refine (same_yes hn (mul_inv A) _ _ _ hx2 hx0).mono ?_
  rintro e w8 ⟨rfl, hs⟩
  replace h0 := h0.below hs
  replace hu := hu.below hs
  replace hv := hv.below hs
  replace hx0 := hx0.below hs
  replace hx1 := hx1.below hs
  replace hx2 := hx2.below hs
  replace hx3 := hx3.below hs
  replace hx4 := hx4.below hs
  replace hb := hb.trans (hs.mono hb.size)
  clear hs
  go_wp2_with fail
  refine (in_len hn A _ _ hu).mono ?_
  rintro e w9 ⟨rfl, hs⟩
  replace h0 := h0.below hs
  replace hu := hu.below hs
  replace hv := hv.below hs
  replace hx0 := hx0.below hs
  replace hx1 := hx1.below hs
  replace hx2 := hx2.below hs
  replace hx3 := hx3.below hs
  replace hx4 := hx4.below hs
  replace hb := hb.trans (hs.mono hb.size)
  clear hs
  go_wp2_with fail
  refine (same_yes hn (rfl : A = A) _ _ _ hx4 hu).mono ?_
  rintro e w10 ⟨rfl, hs⟩
  replace h0 := h0.below hs
  replace hu := hu.below hs
  replace hv := hv.below hs
  replace hx0 := hx0.below hs
  replace hx1 := hx1.below hs
  replace hx2 := hx2.below hs
  replace hx3 := hx3.below hs
  replace hx4 := hx4.below hs
  replace hb := hb.trans (hs.mono hb.size)
  clear hs
  go_wp2_with fail
  refine (ra_ok hn A _ _ hu).mono ?_
  rintro e w11 ⟨rfl, hs⟩
  replace h0 := h0.below hs
  replace hu := hu.below hs
  replace hv := hv.below hs
  replace hx0 := hx0.below hs
  replace hx1 := hx1.below hs
  replace hx2 := hx2.below hs
  replace hx3 := hx3.below hs
  replace hx4 := hx4.below hs
  replace hb := hb.trans (hs.mono hb.size)
  clear hs
  go_wp2_with fail
  refine (at_ok hn A _).mono ?_
  rintro e w12 ⟨x5, rfl, hx5, hs⟩
  replace h0 := h0.below hs
  replace hu := hu.below hs
  replace hv := hv.below hs
  replace hx0 := hx0.below hs
  replace hx1 := hx1.below hs
  replace hx2 := hx2.below hs
  replace hx3 := hx3.below hs
  replace hx4 := hx4.below hs
  replace hb := hb.trans (hs.mono hb.size)
  clear hs
  go_wp2_with fail
  refine (de_ok hn A _ _ hu).mono ?_
  rintro e w13 ⟨x6, rfl, hx6, hs⟩
  replace h0 := h0.below hs
  replace hu := hu.below hs
  replace hv := hv.below hs
  replace hx0 := hx0.below hs
  replace hx1 := hx1.below hs
  replace hx2 := hx2.below hs
  replace hx3 := hx3.below hs
  replace hx4 := hx4.below hs
  replace hx5 := hx5.below hs
  replace hb := hb.trans (hs.mono hb.size)
  clear hs
  have hlen6 := hx6.len (P := Try.prog) 22 3 ⟨_, sliceI⟩
  rw [length_ints] at hlen6
  go_wp2_with fail
  have hS1 := hid (fun (w' : World) (h : Below w13.heap.size w13 w') => calls_fr (same_yes hn (rfl : A = A) _ _ w' (hx5.below h) (hu.below h)) h)
  have hS0 := Below.refl w13.heap.size w13
  cases hd : descF A.1 with
  | nil =>
    have hS2 := hid (fun (w' : World) (h : Below w13.heap.size w13 w') => calls_fr (in_zero hn A hd _ w' (hu.below h)) h)
    rw [hd] at hlen6
    simp only [List.length_nil] at hlen6
    refine wp_region_noPanic ?_
    refine wp_region_held_drew (S := fun w' => Below w13.heap.size w13 w') (by kernel_rfl) ?_ (fun hHeld => ?_)
    focus (first | exact below_drew1 (by assumption) | assumption)
    refine wpAnyH_take (i := 0) (v := ?_) rfl (by kernel_rfl) (by kernel_rfl) (by kernel_rfl) (fun _ _ _ h => h) (Or.inl ⟨by kernel_rfl, ?_⟩) (by assumption) ?_; rotate_left; (focus ((intro w hSw; (try dsimp only at hSw); go_simp) <;> with_reducible rfl)); (try dsimp [Act.put]); (try simp only [List.setIfInBounds_toArray, List.set_cons_zero, List.set_cons_succ])
    refine wpAnyH_take (i := 1) (v := ?_) rfl (by kernel_rfl) (by kernel_rfl) (by kernel_rfl) (fun _ _ _ h => h) (Or.inl ⟨by kernel_rfl, ?_⟩) (by assumption) ?_; rotate_left; (focus ((intro w hSw; (try dsimp only at hSw); go_simp) <;> with_reducible rfl)); (try dsimp [Act.put]); (try simp only [List.setIfInBounds_toArray, List.set_cons_zero, List.set_cons_succ])
    refine wpAnyH_take (i := 2) (v := ?_) rfl (by kernel_rfl) (by kernel_rfl) (by kernel_rfl) (fun _ _ _ h => h) (Or.inl ⟨by kernel_rfl, ?_⟩) (by assumption) ?_; rotate_left; (focus ((intro w hSw; (try dsimp only at hSw); go_simp) <;> with_reducible rfl)); (try dsimp [Act.put]); (try simp only [List.setIfInBounds_toArray, List.set_cons_zero, List.set_cons_succ])
    refine wpAnyH_take (i := 3) (v := ?_) rfl (by kernel_rfl) (by kernel_rfl) (by kernel_rfl) (fun _ _ _ h => h) (Or.inl ⟨by kernel_rfl, ?_⟩) (by assumption) ?_; rotate_left; (focus ((intro w hSw; (try dsimp only at hSw); go_simp) <;> with_reducible rfl)); (try dsimp [Act.put]); (try simp only [List.setIfInBounds_toArray, List.set_cons_zero, List.set_cons_succ])
    refine wpAnyH_take (i := 4) (v := ?_) rfl (by kernel_rfl) (by kernel_rfl) (by kernel_rfl) (fun _ _ _ h => h) (Or.inl ⟨by kernel_rfl, ?_⟩) (by assumption) ?_; rotate_left; (focus ((intro w hSw; (try dsimp only at hSw); go_simp) <;> with_reducible rfl)); (try dsimp [Act.put]); (try simp only [List.setIfInBounds_toArray, List.set_cons_zero, List.set_cons_succ])
    refine wpAnyH_ready (rs := [5]) (by kernel_rfl) (by simp) ?_
    refine AllReadyH.cons (o := { dst := some 88, op := .call { callee := .value (.func 27), args := #[.tmp 86, .tmp 87], argTypes := #[22, 22] }, type := _, pos := _, after := _, guard := _ }) rfl (fun KK hKK => ?_) AllReadyH.nil
    refine step_callw2 (hS1.out _ (by assumption)) (fun _ => by kernel_rfl) (by kernel_rfl) (.tmp 86) (.tmp 87) rfl rfl rfl ?_
    rintro e wa ⟨rfl, hba⟩
    refine ⟨_, rfl, ?_⟩
    refine hKK.out _ _ ?_ (fun hHeld => ?_)
    focus (first | exact below_drew1 (by assumption) | assumption)
    clear hKK KK
    (try dsimp [Act.put]); (try simp only [List.setIfInBounds_toArray, List.set_cons_zero, List.set_cons_succ])
    refine wpAnyH_take (i := 6) (v := ?_) rfl (by kernel_rfl) (by kernel_rfl) (by kernel_rfl) (fun _ _ _ h => h) (Or.inl ⟨by kernel_rfl, ?_⟩) (by assumption) ?_; rotate_left; (focus ((intro w hSw; (try dsimp only at hSw); go_simp) <;> with_reducible rfl)); (try dsimp [Act.put]); (try simp only [List.setIfInBounds_toArray, List.set_cons_zero, List.set_cons_succ])
    refine wpAnyH_take (i := 7) (v := ?_) rfl (by kernel_rfl) (by kernel_rfl) (by kernel_rfl) (fun _ _ _ h => h) (Or.inl ⟨by kernel_rfl, ?_⟩) (by assumption) ?_; rotate_left; (focus ((intro w hSw; (try dsimp only at hSw); go_simp) <;> with_reducible rfl)); (try dsimp [Act.put]); (try simp only [List.setIfInBounds_toArray, List.set_cons_zero, List.set_cons_succ])
    refine wpAnyH_take (i := 8) (v := ?_) rfl (by kernel_rfl) (by kernel_rfl) (by kernel_rfl) (fun _ _ _ h => h) (Or.inl ⟨by kernel_rfl, ?_⟩) (by assumption) ?_; rotate_left; (focus ((intro w hSw; (try dsimp only at hSw); go_simp) <;> with_reducible rfl)); (try dsimp [Act.put]); (try simp only [List.setIfInBounds_toArray, List.set_cons_zero, List.set_cons_succ])
    refine wpAnyH_take (i := 9) (v := ?_) rfl (by kernel_rfl) (by kernel_rfl) (by kernel_rfl) (fun _ _ _ h => h) (Or.inl ⟨by kernel_rfl, ?_⟩) (by assumption) ?_; rotate_left; (focus ((intro w hSw; (try dsimp only at hSw); go_simp) <;> with_reducible rfl)); (try dsimp [Act.put]); (try simp only [List.setIfInBounds_toArray, List.set_cons_zero, List.set_cons_succ])
    refine wpAnyH_take (i := 10) (v := ?_) rfl (by kernel_rfl) (by kernel_rfl) (by kernel_rfl) (fun _ _ _ h => h) (Or.inl ⟨by kernel_rfl, ?_⟩) (by assumption) ?_; rotate_left; (focus ((intro w hSw; (try dsimp only at hSw); go_simp) <;> with_reducible rfl)); (try dsimp [Act.put]); (try simp only [List.setIfInBounds_toArray, List.set_cons_zero, List.set_cons_succ])
    refine wpAnyH_take (i := 11) (v := ?_) rfl (by kernel_rfl) (by kernel_rfl) (by kernel_rfl) (fun _ _ _ h => h) (Or.inl ⟨by kernel_rfl, ?_⟩) (by assumption) ?_; rotate_left; (focus ((intro w hSw; (try dsimp only at hSw); go_simp) <;> with_reducible rfl)); (try dsimp [Act.put]); (try simp only [List.setIfInBounds_toArray, List.set_cons_zero, List.set_cons_succ])
    refine wpAnyH_take (i := 12) (v := ?_) rfl (by kernel_rfl) (by kernel_rfl) (by kernel_rfl) (fun _ _ _ h => h) (Or.inl ⟨by kernel_rfl, ?_⟩) (by assumption) ?_; rotate_left; (focus ((intro w hSw; (try dsimp only at hSw); go_simp) <;> with_reducible rfl)); (try dsimp [Act.put]); (try simp only [List.setIfInBounds_toArray, List.set_cons_zero, List.set_cons_succ])
    refine wpAnyH_ready (rs := [13]) (by kernel_rfl) (by simp) ?_
    refine AllReadyH.cons (o := { dst := some 96, op := .call { callee := .value (.func 35), args := #[.tmp 95], argTypes := #[22] }, type := _, pos := _, after := _, guard := _ }) rfl (fun KK hKK => ?_) AllReadyH.nil
    refine step_callw (hS2.out _ (by assumption)) (fun _ => by kernel_rfl) (by kernel_rfl) (.tmp 95) rfl rfl ?_
    rintro e wb ⟨rfl, hbb⟩
    refine ⟨_, rfl, ?_⟩
    refine hKK.out _ _ ?_ (fun hHeld => ?_)
    focus (first | exact below_drew1 (by assumption) | assumption)
    clear hKK KK
    (try dsimp [Act.put]); (try simp only [List.setIfInBounds_toArray, List.set_cons_zero, List.set_cons_succ])
    refine wpAnyH_take (i := 14) (v := ?_) rfl (by kernel_rfl) (by kernel_rfl) (by kernel_rfl) (fun _ _ _ h => h) (Or.inl ⟨by kernel_rfl, ?_⟩) (by assumption) ?_; rotate_left; (focus ((intro w hSw; (try dsimp only at hSw); go_simp) <;> with_reducible rfl)); (try dsimp [Act.put]); (try simp only [List.setIfInBounds_toArray, List.set_cons_zero, List.set_cons_succ])
    refine wpAnyH_take (i := 15) (v := ?_) rfl (by kernel_rfl) (by kernel_rfl) (by kernel_rfl) (fun _ _ _ h => h) (Or.inl ⟨by kernel_rfl, ?_⟩) (by assumption) ?_; rotate_left; (focus ((intro w hSw; (try dsimp only at hSw); go_simp) <;> with_reducible rfl)); (try dsimp [Act.put]); (try simp only [List.setIfInBounds_toArray, List.set_cons_zero, List.set_cons_succ])
    refine wpAnyH_take (i := 16) (v := ?_) rfl (by kernel_rfl) (by kernel_rfl) (by kernel_rfl) (fun _ _ _ h => h) (Or.inl ⟨by kernel_rfl, ?_⟩) (by assumption) ?_; rotate_left; (focus ((intro w hSw; (try dsimp only at hSw); go_simp) <;> with_reducible rfl)); (try dsimp [Act.put]); (try simp only [List.setIfInBounds_toArray, List.set_cons_zero, List.set_cons_succ])
    refine wpAnyH_take (i := 17) (v := ?_) rfl (by kernel_rfl) (by kernel_rfl) (by kernel_rfl) (fun _ _ _ h => h) (Or.inl ⟨by kernel_rfl, ?_⟩) (by assumption) ?_; rotate_left; (focus ((intro w hSw; (try dsimp only at hSw); go_simp) <;> with_reducible rfl)); (try dsimp [Act.put]); (try simp only [List.setIfInBounds_toArray, List.set_cons_zero, List.set_cons_succ])
    refine wpAnyH_take (i := 18) (v := ?_) rfl (by kernel_rfl) (by kernel_rfl) (by kernel_rfl) (fun _ _ _ h => h) (Or.inl ⟨by kernel_rfl, ?_⟩) (by assumption) ?_; rotate_left; (focus ((intro w hSw; (try dsimp only at hSw); go_simp) <;> with_reducible rfl)); (try dsimp [Act.put]); (try simp only [List.setIfInBounds_toArray, List.set_cons_zero, List.set_cons_succ])
    refine wpAnyH_take (i := 19) (v := ?_) rfl (by kernel_rfl) (by kernel_rfl) (by kernel_rfl) (fun _ _ _ h => h) (Or.inl ⟨by kernel_rfl, ?_⟩) (by assumption) ?_; rotate_left; (focus ((intro w hSw; (try dsimp only at hSw); go_simp) <;> with_reducible rfl)); (try dsimp [Act.put]); (try simp only [List.setIfInBounds_toArray, List.set_cons_zero, List.set_cons_succ])
    refine wpAnyH_take (i := 20) (v := ?_) rfl (by kernel_rfl) (by kernel_rfl) (by kernel_rfl) (fun _ _ _ h => h) (Or.inl ⟨by kernel_rfl, ?_⟩) (by assumption) ?_; rotate_left; (focus ((intro w hSw; (try dsimp only at hSw); go_simp) <;> with_reducible rfl)); (try dsimp [Act.put]); (try simp only [List.setIfInBounds_toArray, List.set_cons_zero, List.set_cons_succ])
    refine wpAnyH_take (i := 21) (v := ?_) rfl (by kernel_rfl) (by kernel_rfl) (by kernel_rfl) (fun _ _ _ h => h) (Or.inl ⟨by kernel_rfl, ?_⟩) (by assumption) ?_; rotate_left; (focus ((intro w hSw; (try dsimp only at hSw); go_simp) <;> with_reducible rfl)); (try dsimp [Act.put]); (try simp only [List.setIfInBounds_toArray, List.set_cons_zero, List.set_cons_succ])
    refine wpAnyH_take (i := 22) (v := undef) rfl (by kernel_rfl) (by kernel_rfl) (by kernel_rfl) (fun _ _ _ h => h) (Or.inr ⟨by kernel_rfl, rfl⟩) (by assumption) ?_; (try dsimp [Act.put]); (try simp only [List.setIfInBounds_toArray, List.set_cons_zero, List.set_cons_succ])
    refine wpAnyH_take (i := 23) (v := undef) rfl (by kernel_rfl) (by kernel_rfl) (by kernel_rfl) (fun _ _ _ h => h) (Or.inr ⟨by kernel_rfl, rfl⟩) (by assumption) ?_; (try dsimp [Act.put]); (try simp only [List.setIfInBounds_toArray, List.set_cons_zero, List.set_cons_succ])
    refine wpAnyH_take (i := 24) (v := undef) rfl (by kernel_rfl) (by kernel_rfl) (by kernel_rfl) (fun _ _ _ h => h) (Or.inr ⟨by kernel_rfl, rfl⟩) (by assumption) ?_; (try dsimp [Act.put]); (try simp only [List.setIfInBounds_toArray, List.set_cons_zero, List.set_cons_succ])
    refine wpAnyH_take (i := 25) (v := undef) rfl (by kernel_rfl) (by kernel_rfl) (by kernel_rfl) (fun _ _ _ h => h) (Or.inr ⟨by kernel_rfl, rfl⟩) (by assumption) ?_; (try dsimp [Act.put]); (try simp only [List.setIfInBounds_toArray, List.set_cons_zero, List.set_cons_succ])
    refine wpAnyH_take (i := 26) (v := undef) rfl (by kernel_rfl) (by kernel_rfl) (by kernel_rfl) (fun _ _ _ h => h) (Or.inr ⟨by kernel_rfl, rfl⟩) (by assumption) ?_; (try dsimp [Act.put]); (try simp only [List.setIfInBounds_toArray, List.set_cons_zero, List.set_cons_succ])
    refine wpAnyH_take (i := 27) (v := undef) rfl (by kernel_rfl) (by kernel_rfl) (by kernel_rfl) (fun _ _ _ h => h) (Or.inr ⟨by kernel_rfl, rfl⟩) (by assumption) ?_; (try dsimp [Act.put]); (try simp only [List.setIfInBounds_toArray, List.set_cons_zero, List.set_cons_succ])
    refine wpAnyH_take (i := 28) (v := undef) rfl (by kernel_rfl) (by kernel_rfl) (by kernel_rfl) (fun _ _ _ h => h) (Or.inr ⟨by kernel_rfl, rfl⟩) (by assumption) ?_; (try dsimp [Act.put]); (try simp only [List.setIfInBounds_toArray, List.set_cons_zero, List.set_cons_succ])
    refine wpAnyH_take (i := 29) (v := undef) rfl (by kernel_rfl) (by kernel_rfl) (by kernel_rfl) (fun _ _ _ h => h) (Or.inr ⟨by kernel_rfl, rfl⟩) (by assumption) ?_; (try dsimp [Act.put]); (try simp only [List.setIfInBounds_toArray, List.set_cons_zero, List.set_cons_succ])
    refine wpAnyH_take (i := 30) (v := undef) rfl (by kernel_rfl) (by kernel_rfl) (by kernel_rfl) (fun _ _ _ h => h) (Or.inr ⟨by kernel_rfl, rfl⟩) (by assumption) ?_; (try dsimp [Act.put]); (try simp only [List.setIfInBounds_toArray, List.set_cons_zero, List.set_cons_succ])
    refine wpAnyH_take (i := 31) (v := undef) rfl (by kernel_rfl) (by kernel_rfl) (by kernel_rfl) (fun _ _ _ h => h) (Or.inr ⟨by kernel_rfl, rfl⟩) (by assumption) ?_; (try dsimp [Act.put]); (try simp only [List.setIfInBounds_toArray, List.set_cons_zero, List.set_cons_succ])
    refine wpAnyH_take (i := 32) (v := undef) rfl (by kernel_rfl) (by kernel_rfl) (by kernel_rfl) (fun _ _ _ h => h) (Or.inr ⟨by kernel_rfl, rfl⟩) (by assumption) ?_; (try dsimp [Act.put]); (try simp only [List.setIfInBounds_toArray, List.set_cons_zero, List.set_cons_succ])
    refine wpAnyH_take (i := 33) (v := undef) rfl (by kernel_rfl) (by kernel_rfl) (by kernel_rfl) (fun _ _ _ h => h) (Or.inr ⟨by kernel_rfl, rfl⟩) (by assumption) ?_; (try dsimp [Act.put]); (try simp only [List.setIfInBounds_toArray, List.set_cons_zero, List.set_cons_succ])
    refine wpAnyH_take (i := 34) (v := ?_) rfl (by kernel_rfl) (by kernel_rfl) (by kernel_rfl) (fun _ _ _ h => h) (Or.inl ⟨by kernel_rfl, ?_⟩) (by assumption) ?_; rotate_left; (focus ((intro w hSw; (try dsimp only at hSw); go_simp) <;> with_reducible rfl)); (try dsimp [Act.put]); (try simp only [List.setIfInBounds_toArray, List.set_cons_zero, List.set_cons_succ])
    refine wpAnyH_take (i := 35) (v := ?_) rfl (by kernel_rfl) (by kernel_rfl) (by kernel_rfl) (fun _ _ _ h => h) (Or.inl ⟨by kernel_rfl, ?_⟩) (by assumption) ?_; rotate_left; (focus ((intro w hSw; (try dsimp only at hSw); go_simp) <;> with_reducible rfl)); (try dsimp [Act.put]); (try simp only [List.setIfInBounds_toArray, List.set_cons_zero, List.set_cons_succ])
    refine wpAnyH_done (by kernel_rfl) ?_ _
    refine NoPanic.normal ?_
    go_wp2_with fail
    refine (ra_ok hn A _ _ (hu.below hbb)).mono ?_
    rintro e wc ⟨rfl, hbc⟩
    replace hbc := calls_be hbb hbc
    go_wp2_with fail
    refine (ra_ok hn B _ _ (hv.below hbc)).mono ?_
    rintro e wd ⟨rfl, hbd⟩
    replace hbd := calls_be hbc hbd
    go_wp2_with fail
    refine (same_dec A B _ _ _ (hu.below hbd) (hv.below hbd)).mono ?_
    rintro e we ⟨rfl, hbe⟩
    replace hbe := calls_be hbd hbe
    have hri := rank_inj A B hn
    by_cases hAB : A.1 = B.1
    case' pos =>
      rw [decide_eq_true hAB]
      have hrk : rankF A.1 = rankF B.1 := hri.2 hAB
      clear hAB hri
      go_wp2_with fail
    case' neg =>
      rw [decide_eq_false hAB]
      have hrk : (rankF A.1 == rankF B.1) = false := by simpa using fun h => hAB (hri.1 h)
      clear hAB hri
      go_wp2_with fail
    all_goals
      refine (iv_ok hn A _ _ (hu.below hbe)).mono ?_
      rintro e wf ⟨x7, rfl, hx7, hbf⟩
      replace hbf := calls_be hbe hbf
      go_wp2_with fail
      refine (in_inv hn A _ _ hx7).mono ?_
      rintro e wg ⟨rfl, hbg⟩
      replace hbg := calls_be hbf hbg
      go_wp2_with fail
      refine (in_ok hn A _ _ (hu.below hbg)).mono ?_
      rintro e wh ⟨rfl, hbh⟩
      replace hbh := calls_be hbg hbh
      go_wp2_with fail
      go_ret
      exact ⟨rfl, hb.trans (hbh.mono hb.size)⟩
  | cons k r =>
    have hS2 := hid (fun (w' : World) (h : Below w13.heap.size w13 w') => calls_fr (in_len hn A _ w' (hu.below h)) h)
    obtain ⟨hk0, hkl⟩ := red_head A hd
    have hd0 : nth (descF A.1) 0 = k := by rw [hd]; rfl
    have hdl : 0 < (descF A.1).length := by rw [hd]; simp
    have i3 := hx3.idx (P := Try.prog) 22 sliceI sizeI .i64 0 (by omega) (by rw [length_ints]; omega)
    have i6 := hx6.idx (P := Try.prog) 22 sliceI sizeI .i64 0 (by omega) (by rw [length_ints]; omega)
    simp only [Int.toNat_zero] at i3 i6
    have hK := hid (fun (w' : World) (h : Below w13.heap.size w13 w') => (⟨by have := (hx3.below h).cell 0 _ (ints_at hkl); rwa [hk0] at this, by have := (hx6.below h).cell 0 _ (ints_at hdl); rwa [hd0] at this⟩ : w'.cell? (adr x3 0) = some (.int .i64 k) ∧ w'.cell? (adr x6 0) = some (.int .i64 k)))
    have hl1 : (((redF A.1).length : Int) == 0) = false := beq_eq_false_iff_ne.2 (by omega)
    have hl2 : (((descF A.1).length : Int) == 0) = false := beq_eq_false_iff_ne.2 (by omega)
    have hl4 : (0 : Int) < ((descF A.1).length : Int) := by omega
    clear hd hk0 hd0
    refine wp_region_noPanic ?_
    refine wp_region_held_drew (S := fun w' => Below w13.heap.size w13 w' ∧ w'.cell? (adr x3 0) = some (.int .i64 k) ∧ w'.cell? (adr x6 0) = some (.int .i64 k)) (by kernel_rfl) ?_ (fun hHeld => ?_)
    focus (first | exact ⟨by assumption, hK.out _ (by assumption)⟩ | exact ⟨hS0.drew, hK.out _ hS0.drew⟩)
    refine wpAnyH_take (i := 0) (v := ?_) rfl (by kernel_rfl) (by kernel_rfl) (by kernel_rfl) (fun _ _ _ h => h) (Or.inl ⟨by kernel_rfl, ?_⟩) (by assumption) ?_; rotate_left; (focus ((intro w hSw; (try dsimp only at hSw); go_simp) <;> with_reducible rfl)); (try dsimp [Act.put]); (try simp only [List.setIfInBounds_toArray, List.set_cons_zero, List.set_cons_succ])
    refine wpAnyH_take (i := 1) (v := ?_) rfl (by kernel_rfl) (by kernel_rfl) (by kernel_rfl) (fun _ _ _ h => h) (Or.inl ⟨by kernel_rfl, ?_⟩) (by assumption) ?_; rotate_left; (focus ((intro w hSw; (try dsimp only at hSw); go_simp) <;> with_reducible rfl)); (try dsimp [Act.put]); (try simp only [List.setIfInBounds_toArray, List.set_cons_zero, List.set_cons_succ])
    refine wpAnyH_take (i := 2) (v := ?_) rfl (by kernel_rfl) (by kernel_rfl) (by kernel_rfl) (fun _ _ _ h => h) (Or.inl ⟨by kernel_rfl, ?_⟩) (by assumption) ?_; rotate_left; (focus ((intro w hSw; (try dsimp only at hSw); go_simp) <;> with_reducible rfl)); (try dsimp [Act.put]); (try simp only [List.setIfInBounds_toArray, List.set_cons_zero, List.set_cons_succ])
    refine wpAnyH_take (i := 3) (v := ?_) rfl (by kernel_rfl) (by kernel_rfl) (by kernel_rfl) (fun _ _ _ h => h) (Or.inl ⟨by kernel_rfl, ?_⟩) (by assumption) ?_; rotate_left; (focus ((intro w hSw; (try dsimp only at hSw); go_simp) <;> with_reducible rfl)); (try dsimp [Act.put]); (try simp only [List.setIfInBounds_toArray, List.set_cons_zero, List.set_cons_succ])
    refine wpAnyH_take (i := 4) (v := ?_) rfl (by kernel_rfl) (by kernel_rfl) (by kernel_rfl) (fun _ _ _ h => h) (Or.inl ⟨by kernel_rfl, ?_⟩) (by assumption) ?_; rotate_left; (focus ((intro w hSw; (try dsimp only at hSw); go_simp) <;> with_reducible rfl)); (try dsimp [Act.put]); (try simp only [List.setIfInBounds_toArray, List.set_cons_zero, List.set_cons_succ])
    refine wpAnyH_ready (rs := [5]) (by kernel_rfl) (by simp) ?_
    refine AllReadyH.cons (o := { dst := some 88, op := .call { callee := .value (.func 27), args := #[.tmp 86, .tmp 87], argTypes := #[22, 22] }, type := _, pos := _, after := _, guard := _ }) rfl (fun KK hKK => ?_) AllReadyH.nil
    refine step_callw2 (hS1.out _ (by first | assumption | exact hHeld.1)) (fun _ => by kernel_rfl) (by kernel_rfl) (.tmp 86) (.tmp 87) rfl rfl rfl ?_
    rintro e wa ⟨rfl, hba⟩
    refine ⟨_, rfl, ?_⟩
    refine hKK.out _ _ ?_ (fun hHeld => ?_)
    focus (first | exact ⟨by assumption, hK.out _ (by assumption)⟩ | exact ⟨hS0.drew, hK.out _ hS0.drew⟩)
    clear hKK KK
    (try dsimp [Act.put]); (try simp only [List.setIfInBounds_toArray, List.set_cons_zero, List.set_cons_succ])
    refine wpAnyH_take (i := 6) (v := ?_) rfl (by kernel_rfl) (by kernel_rfl) (by kernel_rfl) (fun _ _ _ h => h) (Or.inl ⟨by kernel_rfl, ?_⟩) (by assumption) ?_; rotate_left; (focus ((intro w hSw; (try dsimp only at hSw); go_simp) <;> with_reducible rfl)); (try dsimp [Act.put]); (try simp only [List.setIfInBounds_toArray, List.set_cons_zero, List.set_cons_succ])
    refine wpAnyH_take (i := 7) (v := ?_) rfl (by kernel_rfl) (by kernel_rfl) (by kernel_rfl) (fun _ _ _ h => h) (Or.inl ⟨by kernel_rfl, ?_⟩) (by assumption) ?_; rotate_left; (focus ((intro w hSw; (try dsimp only at hSw); go_simp) <;> with_reducible rfl)); (try dsimp [Act.put]); (try simp only [List.setIfInBounds_toArray, List.set_cons_zero, List.set_cons_succ])
    refine wpAnyH_take (i := 8) (v := ?_) rfl (by kernel_rfl) (by kernel_rfl) (by kernel_rfl) (fun _ _ _ h => h) (Or.inl ⟨by kernel_rfl, ?_⟩) (by assumption) ?_; rotate_left; (focus ((intro w hSw; (try dsimp only at hSw); go_simp) <;> with_reducible rfl)); (try dsimp [Act.put]); (try simp only [List.setIfInBounds_toArray, List.set_cons_zero, List.set_cons_succ])
    refine wpAnyH_take (i := 9) (v := ?_) rfl (by kernel_rfl) (by kernel_rfl) (by kernel_rfl) (fun _ _ _ h => h) (Or.inl ⟨by kernel_rfl, ?_⟩) (by assumption) ?_; rotate_left; (focus ((intro w hSw; (try dsimp only at hSw); go_simp) <;> with_reducible rfl)); (try dsimp [Act.put]); (try simp only [List.setIfInBounds_toArray, List.set_cons_zero, List.set_cons_succ])
    refine wpAnyH_take (i := 10) (v := ?_) rfl (by kernel_rfl) (by kernel_rfl) (by kernel_rfl) (fun _ _ _ h => h) (Or.inl ⟨by kernel_rfl, ?_⟩) (by assumption) ?_; rotate_left; (focus ((intro w hSw; (try dsimp only at hSw); go_simp) <;> with_reducible rfl)); (try dsimp [Act.put]); (try simp only [List.setIfInBounds_toArray, List.set_cons_zero, List.set_cons_succ])
    refine wpAnyH_take (i := 11) (v := ?_) rfl (by kernel_rfl) (by kernel_rfl) (by kernel_rfl) (fun _ _ _ h => h) (Or.inl ⟨by kernel_rfl, ?_⟩) (by assumption) ?_; rotate_left; (focus ((intro w hSw; (try dsimp only at hSw); go_simp) <;> with_reducible rfl)); (try dsimp [Act.put]); (try simp only [List.setIfInBounds_toArray, List.set_cons_zero, List.set_cons_succ])
    refine wpAnyH_take (i := 12) (v := ?_) rfl (by kernel_rfl) (by kernel_rfl) (by kernel_rfl) (fun _ _ _ h => h) (Or.inl ⟨by kernel_rfl, ?_⟩) (by assumption) ?_; rotate_left; (focus ((intro w hSw; (try dsimp only at hSw); go_simp) <;> with_reducible rfl)); (try dsimp [Act.put]); (try simp only [List.setIfInBounds_toArray, List.set_cons_zero, List.set_cons_succ])
    refine wpAnyH_ready (rs := [13]) (by kernel_rfl) (by simp) ?_
    refine AllReadyH.cons (o := { dst := some 96, op := .call { callee := .value (.func 35), args := #[.tmp 95], argTypes := #[22] }, type := _, pos := _, after := _, guard := _ }) rfl (fun KK hKK => ?_) AllReadyH.nil
    refine step_callw (hS2.out _ (by first | assumption | exact hHeld.1)) (fun _ => by kernel_rfl) (by kernel_rfl) (.tmp 95) rfl rfl ?_
    rintro e wb ⟨rfl, hbb⟩
    refine ⟨_, rfl, ?_⟩
    refine hKK.out _ _ ?_ (fun hHeld => ?_)
    focus (first | exact ⟨by assumption, hK.out _ (by assumption)⟩ | exact ⟨hS0.drew, hK.out _ hS0.drew⟩)
    clear hKK KK
    (try dsimp [Act.put]); (try simp only [List.setIfInBounds_toArray, List.set_cons_zero, List.set_cons_succ])
    refine wpAnyH_take (i := 14) (v := ?_) rfl (by kernel_rfl) (by kernel_rfl) (by kernel_rfl) (fun _ _ _ h => h) (Or.inl ⟨by kernel_rfl, ?_⟩) (by assumption) ?_; rotate_left; (focus ((intro w hSw; (try dsimp only at hSw); go_simp) <;> with_reducible rfl)); (try dsimp [Act.put]); (try simp only [List.setIfInBounds_toArray, List.set_cons_zero, List.set_cons_succ])
    refine wpAnyH_take (i := 15) (v := ?_) rfl (by kernel_rfl) (by kernel_rfl) (by kernel_rfl) (fun _ _ _ h => h) (Or.inl ⟨by kernel_rfl, ?_⟩) (by assumption) ?_; rotate_left; (focus ((intro w hSw; (try dsimp only at hSw); go_simp) <;> with_reducible rfl)); (try dsimp [Act.put]); (try simp only [List.setIfInBounds_toArray, List.set_cons_zero, List.set_cons_succ])
    refine wpAnyH_take (i := 16) (v := ?_) rfl (by kernel_rfl) (by kernel_rfl) (by kernel_rfl) (fun _ _ _ h => h) (Or.inl ⟨by kernel_rfl, ?_⟩) (by assumption) ?_; rotate_left; (focus ((intro w hSw; (try dsimp only at hSw); go_simp) <;> with_reducible rfl)); (try dsimp [Act.put]); (try simp only [List.setIfInBounds_toArray, List.set_cons_zero, List.set_cons_succ])
    refine wpAnyH_take (i := 17) (v := ?_) rfl (by kernel_rfl) (by kernel_rfl) (by kernel_rfl) (fun _ _ _ h => h) (Or.inl ⟨by kernel_rfl, ?_⟩) (by assumption) ?_; rotate_left; (focus ((intro w hSw; (try dsimp only at hSw); go_simp) <;> with_reducible rfl)); (try dsimp [Act.put]); (try simp only [List.setIfInBounds_toArray, List.set_cons_zero, List.set_cons_succ])
    refine wpAnyH_take (i := 18) (v := ?_) rfl (by kernel_rfl) (by kernel_rfl) (by kernel_rfl) (fun _ _ _ h => h) (Or.inl ⟨by kernel_rfl, ?_⟩) (by assumption) ?_; rotate_left; (focus ((intro w hSw; (try dsimp only at hSw); go_simp) <;> with_reducible rfl)); (try dsimp [Act.put]); (try simp only [List.setIfInBounds_toArray, List.set_cons_zero, List.set_cons_succ])
    refine wpAnyH_take (i := 19) (v := ?_) rfl (by kernel_rfl) (by kernel_rfl) (by kernel_rfl) (fun _ _ _ h => h) (Or.inl ⟨by kernel_rfl, ?_⟩) (by assumption) ?_; rotate_left; (focus ((intro w hSw; (try dsimp only at hSw); go_simp) <;> with_reducible rfl)); (try dsimp [Act.put]); (try simp only [List.setIfInBounds_toArray, List.set_cons_zero, List.set_cons_succ])
    refine wpAnyH_take (i := 20) (v := ?_) rfl (by kernel_rfl) (by kernel_rfl) (by kernel_rfl) (fun _ _ _ h => h) (Or.inl ⟨by kernel_rfl, ?_⟩) (by assumption) ?_; rotate_left; (focus ((intro w hSw; (try dsimp only at hSw); go_simp) <;> with_reducible rfl)); (try dsimp [Act.put]); (try simp only [List.setIfInBounds_toArray, List.set_cons_zero, List.set_cons_succ])
    refine wpAnyH_take (i := 21) (v := ?_) rfl (by kernel_rfl) (by kernel_rfl) (by kernel_rfl) (fun _ _ _ h => h) (Or.inl ⟨by kernel_rfl, ?_⟩) (by assumption) ?_; rotate_left; (focus ((intro w hSw; (try dsimp only at hSw); go_simp) <;> with_reducible rfl)); (try dsimp [Act.put]); (try simp only [List.setIfInBounds_toArray, List.set_cons_zero, List.set_cons_succ])
    refine wpAnyH_take (i := 22) (v := ?_) rfl (by kernel_rfl) (by kernel_rfl) (by kernel_rfl) (fun _ _ _ h => h) (Or.inl ⟨by kernel_rfl, ?_⟩) (by assumption) ?_; rotate_left; (focus ((intro w hSw; (try dsimp only at hSw); go_simp) <;> with_reducible rfl)); (try dsimp [Act.put]); (try simp only [List.setIfInBounds_toArray, List.set_cons_zero, List.set_cons_succ])
    refine wpAnyH_take (i := 23) (v := ?_) rfl (by kernel_rfl) (by kernel_rfl) (by kernel_rfl) (fun _ _ _ h => h) (Or.inl ⟨by kernel_rfl, ?_⟩) (by assumption) ?_; rotate_left; (focus ((intro w hSw; (try dsimp only at hSw); go_simp) <;> with_reducible rfl)); (try dsimp [Act.put]); (try simp only [List.setIfInBounds_toArray, List.set_cons_zero, List.set_cons_succ])
    refine wpAnyH_take (i := 24) (v := ?_) rfl (by kernel_rfl) (by kernel_rfl) (by kernel_rfl) (fun _ _ _ h => h) (Or.inl ⟨by kernel_rfl, ?_⟩) (by assumption) ?_; rotate_left; (focus ((intro w hSw; (try dsimp only at hSw); go_simp) <;> with_reducible rfl)); (try dsimp [Act.put]); (try simp only [List.setIfInBounds_toArray, List.set_cons_zero, List.set_cons_succ])
    refine wpAnyH_take (i := 25) (v := ?_) rfl (by kernel_rfl) (by kernel_rfl) (by kernel_rfl) (fun _ _ _ h => h) (Or.inl ⟨by kernel_rfl, ?_⟩) (by assumption) ?_; rotate_left; (focus ((intro w hSw; (try dsimp only at hSw); go_simp) <;> with_reducible rfl)); (try dsimp [Act.put]); (try simp only [List.setIfInBounds_toArray, List.set_cons_zero, List.set_cons_succ])
    refine wpAnyH_take (i := 26) (v := ?_) rfl (by kernel_rfl) (by kernel_rfl) (by kernel_rfl) (fun _ _ _ h => h) (Or.inl ⟨by kernel_rfl, ?_⟩) (by assumption) ?_; rotate_left; (focus ((intro w hSw; (try dsimp only at hSw); go_simp) <;> with_reducible rfl)); (try dsimp [Act.put]); (try simp only [List.setIfInBounds_toArray, List.set_cons_zero, List.set_cons_succ])
    refine wpAnyH_take (i := 27) (v := ?_) rfl (by kernel_rfl) (by kernel_rfl) (by kernel_rfl) (fun _ _ _ h => h) (Or.inl ⟨by kernel_rfl, ?_⟩) (by assumption) ?_; rotate_left; (focus ((intro w hSw; (try dsimp only at hSw); go_simp) <;> with_reducible rfl)); (try dsimp [Act.put]); (try simp only [List.setIfInBounds_toArray, List.set_cons_zero, List.set_cons_succ])
    refine wpAnyH_take (i := 28) (v := ?_) rfl (by kernel_rfl) (by kernel_rfl) (by kernel_rfl) (fun _ _ _ h => h) (Or.inl ⟨by kernel_rfl, ?_⟩) (by assumption) ?_; rotate_left; (focus ((intro w hSw; (try dsimp only at hSw); go_simp) <;> with_reducible rfl)); (try dsimp [Act.put]); (try simp only [List.setIfInBounds_toArray, List.set_cons_zero, List.set_cons_succ])
    refine wpAnyH_take (i := 29) (v := ?_) rfl (by kernel_rfl) (by kernel_rfl) (by kernel_rfl) (fun _ _ _ h => h) (Or.inl ⟨by kernel_rfl, ?_⟩) (by assumption) ?_; rotate_left; (focus ((intro w hSw; (try dsimp only at hSw); go_simp) <;> with_reducible rfl)); (try dsimp [Act.put]); (try simp only [List.setIfInBounds_toArray, List.set_cons_zero, List.set_cons_succ])
    refine wpAnyH_take (i := 30) (v := ?_) rfl (by kernel_rfl) (by kernel_rfl) (by kernel_rfl) (fun _ _ _ h => h) (Or.inl ⟨by kernel_rfl, ?_⟩) (by assumption) ?_; rotate_left; (focus ((intro w hSw; (try dsimp only at hSw); go_simp) <;> with_reducible rfl)); (try dsimp [Act.put]); (try simp only [List.setIfInBounds_toArray, List.set_cons_zero, List.set_cons_succ])
    refine wpAnyH_take (i := 31) (v := ?_) rfl (by kernel_rfl) (by kernel_rfl) (by kernel_rfl) (fun _ _ _ h => h) (Or.inl ⟨by kernel_rfl, ?_⟩) (by assumption) ?_; rotate_left; (focus ((intro w hSw; (try dsimp only at hSw); go_simp) <;> with_reducible rfl)); (try dsimp [Act.put]); (try simp only [List.setIfInBounds_toArray, List.set_cons_zero, List.set_cons_succ])
    refine wpAnyH_take (i := 32) (v := ?_) rfl (by kernel_rfl) (by kernel_rfl) (by kernel_rfl) (fun _ _ _ h => h) (Or.inl ⟨by kernel_rfl, ?_⟩) (by assumption) ?_; rotate_left; (focus ((intro w hSw; (try dsimp only at hSw); go_simp) <;> with_reducible rfl)); (try dsimp [Act.put]); (try simp only [List.setIfInBounds_toArray, List.set_cons_zero, List.set_cons_succ])
    refine wpAnyH_take (i := 33) (v := ?_) rfl (by kernel_rfl) (by kernel_rfl) (by kernel_rfl) (fun _ _ _ h => h) (Or.inl ⟨by kernel_rfl, ?_⟩) (by assumption) ?_; rotate_left; (focus ((intro w hSw; (try dsimp only at hSw); go_simp) <;> with_reducible rfl)); (try dsimp [Act.put]); (try simp only [List.setIfInBounds_toArray, List.set_cons_zero, List.set_cons_succ])
    refine wpAnyH_take (i := 34) (v := ?_) rfl (by kernel_rfl) (by kernel_rfl) (by kernel_rfl) (fun _ _ _ h => h) (Or.inl ⟨by kernel_rfl, ?_⟩) (by assumption) ?_; rotate_left; (focus ((intro w hSw; (try dsimp only at hSw); go_simp) <;> with_reducible rfl)); (try dsimp [Act.put]); (try simp only [List.setIfInBounds_toArray, List.set_cons_zero, List.set_cons_succ])
    refine wpAnyH_take (i := 35) (v := ?_) rfl (by kernel_rfl) (by kernel_rfl) (by kernel_rfl) (fun _ _ _ h => h) (Or.inl ⟨by kernel_rfl, ?_⟩) (by assumption) ?_; rotate_left; (focus ((intro w hSw; (try dsimp only at hSw); go_simp) <;> with_reducible rfl)); (try dsimp [Act.put]); (try simp only [List.setIfInBounds_toArray, List.set_cons_zero, List.set_cons_succ])
    refine wpAnyH_done (by kernel_rfl) ?_ _
    refine NoPanic.normal ?_
    go_wp2_with fail
    refine (ra_ok hn A _ _ (hu.below hbb)).mono ?_
    rintro e wc ⟨rfl, hbc⟩
    replace hbc := calls_be hbb hbc
    go_wp2_with fail
    refine (ra_ok hn B _ _ (hv.below hbc)).mono ?_
    rintro e wd ⟨rfl, hbd⟩
    replace hbd := calls_be hbc hbd
    go_wp2_with fail
    refine (same_dec A B _ _ _ (hu.below hbd) (hv.below hbd)).mono ?_
    rintro e we ⟨rfl, hbe⟩
    replace hbe := calls_be hbd hbe
    have hri := rank_inj A B hn
    by_cases hAB : A.1 = B.1
    case' pos =>
      rw [decide_eq_true hAB]
      have hrk : rankF A.1 = rankF B.1 := hri.2 hAB
      clear hAB hri
      go_wp2_with fail
    case' neg =>
      rw [decide_eq_false hAB]
      have hrk : (rankF A.1 == rankF B.1) = false := by simpa using fun h => hAB (hri.1 h)
      clear hAB hri
      go_wp2_with fail
    all_goals
      refine (iv_ok hn A _ _ (hu.below hbe)).mono ?_
      rintro e wf ⟨x7, rfl, hx7, hbf⟩
      replace hbf := calls_be hbe hbf
      go_wp2_with fail
      refine (in_inv hn A _ _ hx7).mono ?_
      rintro e wg ⟨rfl, hbg⟩
      replace hbg := calls_be hbf hbg
      go_wp2_with fail
      refine (in_ok hn A _ _ (hu.below hbg)).mono ?_
      rintro e wh ⟨rfl, hbh⟩
      replace hbh := calls_be hbg hbh
      go_wp2_with fail
      go_ret
      exact ⟨rfl, hb.trans (hbh.mono hb.size)⟩


end Go.Proofs.Ytgibgcjpehcemaa
