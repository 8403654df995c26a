/- Contracts: doubled braids (the program's side). -/
import Derived.Test.YtmeccemnmkobbaaRl
import Derived.Test.YtmeccemnmkobbaaBra
import Derived.Test.YtmeccemnmkobbaaBrk
import Derived.Test.YtmeccemnmkobbaaBrj
import Derived.Test.YtmeccemnmkobbaaCat
import Derived.Test.YtmeccemnmkobbaaDel
import Derived.Test.YtmeccemnmkobbaaRwa
namespace Go.Proofs.Ytmeccemnmkobbaa
open Pm

theorem rowL_mem {f a : Nat} {x : Int} (h : x ∈ rowL f a) : (f : Int) + 1 ≤ x ∧ x ≤ f + a := by
  induction a with
  | zero => simp [rowL] at h
  | succ a ih =>
    rcases List.mem_cons.1 h with rfl | h
    · omega
    · have := ih h; omega
theorem bl_mem {f a b : Nat} {x : Int} (h : x ∈ bl f a b) : (f : Int) + 1 ≤ x ∧ x + 1 ≤ f + a + b := by
  induction b generalizing f with
  | zero => simp [bl] at h
  | succ b ih =>
    rcases List.mem_append.1 h with h | h
    · have := rowL_mem h; omega
    · have := ih h; omega
theorem length_rowL (f a : Nat) : (rowL f a).length = a := by
  induction a with
  | zero => rfl
  | succ a ih => simp [rowL, ih]
theorem length_bl (f a b : Nat) : (bl f a b).length = a * b := by
  induction b generalizing f with
  | zero => rfl
  | succ b ih => rw [bl, List.length_append, length_rowL, ih, Nat.mul_succ]; omega
theorem dl_lv {n : Nat} {s : List Nat} (hs : s.length = n) {k : Int} (h : Lv n k) : ∀ x ∈ dl s k, Lv s.sum x := by
  obtain ⟨P, a, b, Q, rfl, hk⟩ := split_at hs h
  intro x hx
  rw [dl_mid _ _ _ _ _ hk, List.mem_map] at hx
  obtain ⟨y, hy, rfl⟩ := hx
  have h1 := bl_mem hy
  have h2 : (P ++ a :: b :: Q).sum = P.sum + (a + (b + Q.sum)) := by simp [List.sum_append]
  rw [h2]
  rcases Int.lt_trichotomy k 0 with h0 | h0 | h0
  · rw [sign_neg h0]; exact ⟨by omega, by omega⟩
  · exact absurd h0 h.1
  · rw [sign_pos h0]; exact ⟨by omega, by omega⟩
theorem swN_sum {n : Nat} {s : List Nat} (hs : s.length = n) {k : Int} (h : Lv n k) : (swN s (k.natAbs - 1)).sum = s.sum := by
  obtain ⟨P, a, b, Q, rfl, hk⟩ := split_at hs h
  rw [show k.natAbs - 1 = P.length by omega, swN_mid, sum_swap]
theorem dw_lv {n : Nat} (w : List Int) {s : List Nat} (hs : s.length = n) (hw : ∀ k ∈ w, Lv n k) : ∀ x ∈ dw w s, Lv s.sum x := by
  induction w generalizing s with
  | nil => simp [dw]
  | cons k w ih =>
    intro x hx
    rw [dw, List.mem_append] at hx
    rcases hx with hx | hx
    · exact dl_lv hs (hw k (by simp)) x hx
    · have := ih (s := swN s (k.natAbs - 1)) (by rw [swN_len, hs]) (fun k hk => hw k (by simp [hk])) x hx
      rwa [swN_sum hs (hw k (by simp))] at this
theorem letters_lv {n : Nat} {l : List Int} (h : ∀ k ∈ l, Lv n k) : lettersTo (n : Int) l l.length = true := by
  rw [lettersTo, List.all_eq_true]
  intro k hk
  have h1 := h (nth l k) (by
    have hk' : k < l.length := by simpa using hk
    have e : nth l k = l[k] := by simp [nth, hk']
    rw [e]; exact List.getElem_mem hk')
  have h2 := h1.1
  have h3 := h1.2
  simp only [letterB, inB, Bool.and_eq_true, Bool.not_eq_true', beq_eq_false_iff_ne, decide_eq_true_eq]
  exact ⟨h2, by omega, by omega⟩
theorem lv_letters {n : Nat} {l : List Int} (h : lettersTo (n : Int) l l.length = true) : ∀ k ∈ l, Lv n k := by
  intro k hk
  rw [lettersTo, List.all_eq_true] at h
  obtain ⟨i, hi, rfl⟩ := List.getElem_of_mem hk
  have h1 := h i (by simpa using hi)
  have e : nth l i = l[i] := by simp [nth, hi]
  rw [e] at h1
  simp only [letterB, inB, Bool.and_eq_true, Bool.not_eq_true', beq_eq_false_iff_ne, decide_eq_true_eq] at h1
  exact ⟨h1.1, by omega⟩

/-- sizes as natural numbers -/
def sz (z : List Int) : List Nat := z.map Int.toNat
@[simp] theorem length_sz (z : List Int) : (sz z).length = z.length := by simp [sz]
/-- sizes are within bounds -/
def Szs (z : List Int) : Prop := ∀ i, i < z.length → 0 ≤ nth z i ∧ nth z i ≤ 4
def szsB (z : List Int) : Bool := (List.range z.length).all fun i => inB (nth z i) 0 4
theorem szsB_iff {z : List Int} : szsB z = true ↔ Szs z := by
  unfold szsB Szs
  rw [List.all_eq_true]
  constructor
  · intro h i hi; exact inB_yes (h i (by simpa using hi))
  · intro h i hi
    have := h i (by simpa using hi)
    simp [inB]; exact this
theorem sz_at {z : List Int} (h : Szs z) {i : Nat} (hi : i < z.length) : (((sz z)[i]?.getD 0 : Nat) : Int) = nth z i := by
  have := (h i hi).1
  simp [sz, nth, hi] at this ⊢
  omega
theorem Szs.swap {z : List Int} (h : Szs z) {i : Nat} (hi : i + 1 < z.length) : Szs (swapAt z i) := by
  intro j hj
  rw [length_swapAt] at hj
  rw [nth_swapAt hi]
  split
  · exact h _ (by omega)
  · split
    · exact h _ (by omega)
    · exact h j hj
theorem sz_swap {z : List Int} {i : Nat} (hi : i + 1 < z.length) : sz (swapAt z i) = swN (sz z) i := by
  have h1 : (sz z)[i + 1]?.getD 0 = (nth z (i + 1)).toNat := by simp [sz, nth, hi]
  have h2 : (sz z)[i]?.getD 0 = (nth z i).toNat := by
    have : i < z.length := by omega
    simp [sz, nth, this]
  unfold swN
  rw [h1, h2]
  simp [sz, swapAt, List.map_set]
/-- the sum of a list of numbers -/
def sumF (z : List Int) : Int := sumTo (fun i => nth z i) z.length
theorem sum_take {z : List Int} (h : Szs z) {k : Nat} (hk : k ≤ z.length) : sumTo (fun i => nth z i) k = ((((sz z).take k).sum : Nat) : Int) := by
  induction k with
  | zero => rfl
  | succ k ih =>
    rw [sumTo_succ, ih (by omega), List.take_add_one, List.sum_append, ← sz_at h (by omega)]
    have hk' : k < (sz z).length := by rw [length_sz]; omega
    rw [List.getElem?_eq_getElem hk']
    simp
theorem sum_all {z : List Int} (h : Szs z) : sumF z = (((sz z).sum : Nat) : Int) := by
  unfold sumF
  rw [sum_take h (Nat.le_refl _), List.take_of_length_le (by simp)]
theorem sum_bd4 {z : List Int} (h : Szs z) {k : Nat} (hk : k ≤ z.length) : 0 ≤ sumTo (fun i => nth z i) k ∧ sumTo (fun i => nth z i) k ≤ 4 * k := by
  induction k with
  | zero => exact ⟨Int.le_refl _, Int.le_refl _⟩
  | succ k ih =>
    have := ih (by omega)
    have := h k (by omega)
    rw [sumTo_succ]; omega
theorem dl_nth {n : Nat} {z : List Int} (h : Szs z) (hn : z.length = n) {k : Int} (hk : Lv n k) :
    dl (sz z) k = (bl (sumTo (fun i => nth z i) (k.natAbs - 1)).toNat (nth z (k.natAbs - 1)).toNat (nth z k.natAbs).toNat).map (k.sign * ·) := by
  have h1 := hk.1
  have h2 := hk.2
  unfold dl
  have e1 := sz_at h (i := k.natAbs - 1) (by omega)
  have e2 := sz_at h (i := k.natAbs) (by omega)
  have e3 := sum_take h (k := k.natAbs - 1) (by omega)
  rw [← e1, ← e2, e3]
  simp
theorem dl_len {n : Nat} {z : List Int} (h : Szs z) (hn : z.length = n) {k : Int} (hk : Lv n k) : (dl (sz z) k).length ≤ 16 := by
  have h1 := hk.1
  have h2 := hk.2
  rw [dl_nth h hn hk, List.length_map, length_bl]
  have a := h (k.natAbs - 1) (by omega)
  have b := h k.natAbs (by omega)
  have := Nat.mul_le_mul (show (nth z (k.natAbs - 1)).toNat ≤ 4 by omega) (show (nth z k.natAbs).toNat ≤ 4 by omega)
  omega

/-! the doubled braid -/
def dwI (l z : List Int) : List Int := dw l (sz z)
def okD (n : Int) (l z : List Int) : Bool := okB n l && decide ((z.length : Int) = n)
def codeD (n : Int) (l z : List Int) : Int := if okD n l z then (if szsB z then (if sumF z ≤ 12 ∧ (dwI l z).length ≤ 40 then 0 else 5) else 2) else 1
def nD (n : Int) (l z : List Int) : Int := if codeD n l z = 0 then sumF z else 0
def lD (n : Int) (l z : List Int) : List Int := if codeD n l z = 0 then dwI l z else []
theorem okB_dw {n : Nat} {l z : List Int} (hn : z.length = n) (hl : ∀ k ∈ l, Lv n k) (hz : Szs z) : okB (sumF z) (dwI l z) = decide (sumF z ≤ 12 ∧ (dwI l z).length ≤ 40) := by
  have h1 := dw_lv l (s := sz z) (n := n) (by rw [length_sz, hn]) hl
  have h2 := letters_lv h1
  have h3 := sum_all hz
  unfold okB dwI
  rw [h3, h2]
  by_cases h4 : (((sz z).sum : Nat) : Int) ≤ 12
  · have : inB (((sz z).sum : Nat) : Int) 0 12 = true := by simp [inB]; omega
    rw [this]; simp [h4]
  · have : inB (((sz z).sum : Nat) : Int) 0 12 = false := by simp [inB]; omega
    rw [this]; simp; omega

end Go.Proofs.Ytmeccemnmkobbaa

namespace Go.Proofs.Ytmeccemnmkobbaa
open Go.RowKit
open Pm

theorem bl_succ (f a b : Nat) : bl f a (b + 1) = bl f a b ++ rowL (f + b) a := by
  induction b generalizing f with
  | zero => simp [bl]
  | succ b ih =>
    rw [bl, ih (f + 1), bl, List.append_assoc, show f + 1 + b = f + (b + 1) by omega]
theorem rowL_take (f a : Nat) {j : Nat} (h : j < a) : (rowL f a).take (j + 1) = (rowL f a).take j ++ [((f + (a - j) : Nat) : Int)] := by
  induction a generalizing j with
  | zero => omega
  | succ a ih =>
    cases j with
    | zero => simp [rowL]; omega
    | succ j =>
      rw [rowL, List.take_succ_cons, List.take_succ_cons, ih (by omega), List.cons_append, show a + 1 - (j + 1) = a - j by omega]
/-- the letters behind t rows and j letters of the next one -/
def blS (s : Int) (f a t j : Nat) : List Int := (bl f a t ++ (rowL (f + t) a).take j).map (s * ·)
theorem blS_zero (s : Int) (f a : Nat) : blS s f a 0 0 = [] := by simp [blS, bl]
theorem blS_row (s : Int) (f a t : Nat) : blS s f a t a = blS s f a (t + 1) 0 := by
  unfold blS
  rw [List.take_of_length_le (by rw [length_rowL]; exact Nat.le_refl _), bl_succ, List.take_zero, List.append_nil]
theorem blS_end (s : Int) (f a b : Nat) : blS s f a b 0 = (bl f a b).map (s * ·) := by simp [blS]
theorem blS_step (s : Int) (f a t : Nat) {j : Nat} (h : j < a) : blS s f a t (j + 1) = blS s f a t j ++ [s * ((f : Int) + t + ((a : Int) - 1 - j) + 1)] := by
  unfold blS
  rw [rowL_take _ _ h, ← List.append_assoc, List.map_append]
  show _ = _ ++ _
  rw [List.map_cons, List.map_nil]
  congr 3
  omega
theorem blS_len (s : Int) (f a t : Nat) {j : Nat} (ha : a ≤ 4) (ht : t ≤ 4) (hj : j ≤ a) : (blS s f a t j).length ≤ 20 := by
  unfold blS
  rw [List.length_map, List.length_append, length_bl, List.length_take]
  have := Nat.mul_le_mul ha ht
  omega
theorem mul_sign_bd {s x : Int} (hs : s = 1 ∨ s = -1) (h0 : 0 ≤ x) (h1 : x ≤ 1000) : -1000 ≤ s * x ∧ s * x ≤ 1000 := by
  rcases hs with rfl | rfl <;> omega


set_option maxRecDepth 100000 in
set_option maxHeartbeats 4000000 in
theorem swap_spec (f a b : Nat) (s : Int) (w : World) (hs : s = 1 ∨ s = -1) (hf : f ≤ 100) (ha : a ≤ 4) (hb4 : b ≤ 4) :
    Calls Try.prog 128 #[.int .i64 (f : Int), .int .i64 (a : Int), .int .i64 (b : Int), .int .i64 s] w fun e w' => ∃ u, e = .returned u ∧ Own w' w.heap.size 2 u (ints ((bl f a b).map (s * ·))) ∧ Below w.heap.size w w' := by
  replace hs := hid hs
  go_enter Try.func128, Try.ntmps128
  go_wp2_with fail
  go_loopw [9, 10, 11] (fun u i _ wr => ∃ t : Nat, t ≤ b ∧ i = .int .i64 t ∧ Own wr w.heap.size 2 u (ints (blS s f a t 0)) ∧ Below w.heap.size w wr) (fun _ i _ _ => b - (intOf i).toNat)
  case atStart => exact ⟨0, by omega, rfl, by rw [blS_zero]; exact own_empty w _ (Nat.le_refl _), (Below.refl _ _).alloc (Nat.le_refl _) _⟩
  case round =>
    obtain ⟨t, ht, rfl, hown, hb⟩ := hrel
    by_cases hlt : t < b
    · replace hown := hid hown
      replace hb := hid hb
      go_wp2_with fail
      rename World => wO
      go_loopw [9, 11] (fun u k wr => ∃ j : Nat, j ≤ a ∧ k = .int .i64 ((a : Int) - 1 - j) ∧ Own wr w.heap.size 2 u (ints (blS s f a t j)) ∧ Below w.heap.size w wr) (fun _ k _ => (intOf k + 1).toNat)
      case atStart => exact ⟨0, by omega, by go_num, hown.out, hb.out⟩
      case round =>
        clear hown hb
        obtain ⟨j, hj, rfl, hown, hb⟩ := hrel
        by_cases hja : j < a
        · have hS := hid (blS_step s f a t hja)
          have hL := blS_len s f a t (j := j) ha (by omega) (by omega)
          have hB := mul_sign_bd (x := (f : Int) + t + ((a : Int) - 1 - j) + 1) hs.out (by omega) (by omega)
          have hW := Go.IntWalk.i64_in (s * ((f : Int) + t + ((a : Int) - 1 - j) + 1)) (by omega)
          generalize hx : s * ((f : Int) + t + ((a : Int) - 1 - j) + 1) = x at *
          obtain ⟨v', w', hrun, hown', hb'⟩ := app_one (ty := 32) (x := .int .i64 x) sliceI infoI rfl hown rfl hb.size (by simp; omega) (by decide) hb (Nat.le_refl _)
          have hst := hid (show Own w' w.heap.size 2 v' (ints (blS s f a t (j + 1))) by rw [hS.out]; simpa [ints] using hown')
          replace hb' := hid hb'
          clear hown' hown hb hB
          go_wp2_with (at_builtin; refine wpList_app hrun rfl _ _ rfl rfl rfl ?_)
          go_roundw
          case rel => exact ⟨j + 1, by omega, by go_num, hst.out, hb'.out⟩
          case measure => simp [intOf] <;> omega
        · obtain rfl : j = a := by omega
          rw [blS_row] at hown
          replace hown := hid hown
          replace hb := hid hb
          go_wp2_with fail
          go_roundw
          case rel => exact ⟨t + 1, by omega, by go_num, hown.out, hb.out⟩
          case measure => simp [intOf] <;> omega
    · obtain rfl : t = b := by omega
      rw [blS_end] at hown
      replace hown := hid hown
      replace hb := hid hb
      go_wp2_with fail
      go_ret
      exact ⟨_, rfl, hown.out, hb.out⟩


set_option maxRecDepth 100000 in
set_option maxHeartbeats 4000000 in
theorem block_impl (f a b : Nat) (s : Int) (w : World) (hs : s = 1 ∨ s = -1) (hf : f ≤ 100) (ha : a ≤ 4) (hb4 : b ≤ 4) :
    Calls Try.prog 97 #[.int .i64 (f : Int), .int .i64 (a : Int), .int .i64 (b : Int), .int .i64 s] w fun e w' => ∃ u, e = .returned u ∧ Own w' w.heap.size 2 u (ints ((bl f a b).map (s * ·))) ∧ Below w.heap.size w w' := by
  replace hs := hid hs
  go_enter Try.func97, Try.ntmps97
  go_wp2_with fail
  go_loopw [9, 10, 11, 14] (fun u _ _ i wr => ∃ t : Nat, t ≤ b ∧ i = .int .i64 t ∧ Own wr w.heap.size 2 u (ints (blS s f a t 0)) ∧ Below w.heap.size w wr) (fun _ _ _ i _ => b - (intOf i).toNat)
  case atStart => exact ⟨0, by omega, rfl, by rw [blS_zero]; exact own_empty w _ (Nat.le_refl _), (Below.refl _ _).alloc (Nat.le_refl _) _⟩
  case round =>
    obtain ⟨t, ht, rfl, hown, hb⟩ := hrel
    by_cases hlt : t < b
    · replace hown := hid hown
      replace hb := hid hb
      go_wp2_with fail
      rename World => wO
      go_loopw [9, 11] (fun u k wr => ∃ j : Nat, j ≤ a ∧ k = .int .i64 ((a : Int) - 1 - j) ∧ Own wr w.heap.size 2 u (ints (blS s f a t j)) ∧ Below w.heap.size w wr) (fun _ k _ => (intOf k + 1).toNat)
      case atStart => exact ⟨0, by omega, by go_num, hown.out, hb.out⟩
      case round =>
        clear hown hb
        obtain ⟨j, hj, rfl, hown, hb⟩ := hrel
        by_cases hja : j < a
        · have hS := hid (blS_step s f a t hja)
          have hL := blS_len s f a t (j := j) ha (by omega) (by omega)
          have hB := mul_sign_bd (x := (f : Int) + t + ((a : Int) - 1 - j) + 1) hs.out (by omega) (by omega)
          have hW := Go.IntWalk.i64_in (s * ((f : Int) + t + ((a : Int) - 1 - j) + 1)) (by omega)
          generalize hx : s * ((f : Int) + t + ((a : Int) - 1 - j) + 1) = x at *
          obtain ⟨v', w', hrun, hown', hb'⟩ := app_one (ty := 32) (x := .int .i64 x) sliceI infoI rfl hown rfl hb.size (by simp; omega) (by decide) hb (Nat.le_refl _)
          have hst := hid (show Own w' w.heap.size 2 v' (ints (blS s f a t (j + 1))) by rw [hS.out]; simpa [ints] using hown')
          replace hb' := hid hb'
          clear hown' hown hb hB
          go_wp2_with (at_builtin; refine wpList_app hrun rfl _ _ rfl rfl rfl ?_)
          go_roundw
          case rel => exact ⟨j + 1, by omega, by go_num, hst.out, hb'.out⟩
          case measure => simp [intOf] <;> omega
        · obtain rfl : j = a := by omega
          rw [blS_row] at hown
          replace hown := hid hown
          replace hb := hid hb
          go_wp2_with fail
          go_roundw
          case rel => exact ⟨t + 1, by omega, by go_num, hown.out, hb.out⟩
          case measure => simp [intOf] <;> omega
    · obtain rfl : t = b := by omega
      rw [blS_end] at hown
      replace hown := hid hown
      replace hb := hid hb
      go_wp2_with fail
      go_ret
      exact ⟨_, rfl, hown.out, hb.out⟩


end Go.Proofs.Ytmeccemnmkobbaa

namespace Go.Proofs.Ytmeccemnmkobbaa
open Go.RowKit
open Pm

/-- a call of a Go function with four arguments, as one step of a region that draws -/
theorem step_call4 {P : Program} {w : World} {ops : Array Oper} {o : Oper} {a : Act} {K : Act → World → Prop} {Q : Exit → Act → World → Prop} {E : Prop} {f : FuncId} {u1 u2 u3 u4 : Value} {T1 T2 T3 T4 : TypeId} {R : Ending → World → Prop}
    (hc : Calls P f #[u1, u2, u3, u4] w R) (hf : ∀ w, (callFunc f #[u1, u2, u3, u4]).run P w = .ok (.enter f #[u1, u2, u3, u4]) w) (hg : o.guard = none) (x y z t : Operand)
    (ho : o.op = .call { callee := .value (.func f), args := #[x, y, z, t], argTypes := #[T1, T2, T3, T4] }) (hx : a.eval x = u1) (hy : a.eval y = u2) (hz : a.eval z = u3) (ht : a.eval t = u4)
    (hK : ∀ e w', R e w' → ∃ v, e = .returned v ∧ K (a.put o.dst v) w') : if Region.wanted o (yielded ops a.tmps) = true then Oper.wp P o a w K Q else E := by
  have hw : Region.wanted o (yielded ops a.tmps) = true := by simp [Region.wanted, hg]
  rw [if_pos hw]
  unfold Oper.wp
  have hr : (execOp a.eval o).run P w = .ok (.enter f #[u1, u2, u3, u4]) w := by
    have hx' : Act.eval a x = u1 := hx
    have hy' : Act.eval a y = u2 := hy
    have hz' : Act.eval a z = u3 := hz
    have ht' : Act.eval a t = u4 := ht
    have h0 : a.eval (.func f) = .func (.func f) #[] #[] := rfl
    simp [execOp, ho, resolve, invoke, hx', hy', hz', ht', h0, Deferred.ofValue, hf]
  rw [hr]
  refine hc.mono ?_
  intro e w' hr
  obtain ⟨v, rfl, hk⟩ := hK e w' hr
  exact hk

theorem swap_specI (f a b s : Int) (w : World) (hs : s = 1 ∨ s = -1) (f0 : 0 ≤ f) (f1 : f ≤ 100) (a0 : 0 ≤ a) (a1 : a ≤ 4) (b0 : 0 ≤ b) (b1 : b ≤ 4) :
    Calls Try.prog 128 #[.int .i64 f, .int .i64 a, .int .i64 b, .int .i64 s] w fun e w' => ∃ u, e = .returned u ∧ Own w' w.heap.size 2 u (ints ((bl f.toNat a.toNat b.toNat).map (s * ·))) ∧ Below w.heap.size w w' := by
  obtain ⟨f, rfl⟩ := Int.eq_ofNat_of_zero_le f0
  obtain ⟨a, rfl⟩ := Int.eq_ofNat_of_zero_le a0
  obtain ⟨b, rfl⟩ := Int.eq_ofNat_of_zero_le b0
  simp only [Int.toNat_natCast]
  exact swap_spec f a b s w hs (by omega) (by omega) (by omega)
theorem block_implI (f a b s : Int) (w : World) (hs : s = 1 ∨ s = -1) (f0 : 0 ≤ f) (f1 : f ≤ 100) (a0 : 0 ≤ a) (a1 : a ≤ 4) (b0 : 0 ≤ b) (b1 : b ≤ 4) :
    Calls Try.prog 97 #[.int .i64 f, .int .i64 a, .int .i64 b, .int .i64 s] w fun e w' => ∃ u, e = .returned u ∧ Own w' w.heap.size 2 u (ints ((bl f.toNat a.toNat b.toNat).map (s * ·))) ∧ Below w.heap.size w w' := by
  obtain ⟨f, rfl⟩ := Int.eq_ofNat_of_zero_le f0
  obtain ⟨a, rfl⟩ := Int.eq_ofNat_of_zero_le a0
  obtain ⟨b, rfl⟩ := Int.eq_ofNat_of_zero_le b0
  simp only [Int.toNat_natCast]
  exact block_impl f a b s w hs (by omega) (by omega) (by omega)

theorem sumF_take {z : List Int} {k : Nat} (h : k ≤ z.length) : sumF (z.take k) = sumTo (fun i => nth z i) k := by
  unfold sumF
  rw [List.length_take, Nat.min_eq_left h]
  refine sumTo_congr fun i hi => ?_
  simp [nth, hi]
theorem Szs.take {z : List Int} (h : Szs z) (k : Nat) : Szs (z.take k) := by
  intro i hi
  rw [List.length_take] at hi
  have e : nth (z.take k) i = nth z i := by simp [nth, show i < k by omega]
  rw [e]; exact h i (by omega)
set_option maxRecDepth 100000 in
set_option maxHeartbeats 1000000 in
theorem sum_impl (v : Value) (z : List Int) (w : World) (h : Reads w v (ints z)) (hz : Szs z) (hl : z.length ≤ 100) :
    Calls Try.prog 95 #[v] w fun e w' => e = .returned (.int .i64 (sumF z)) ∧ w = w' := by
  have hlen := h.len (P := Try.prog) 32 3 ⟨_, sliceI⟩
  simp only [length_ints] at hlen
  replace hz := hid hz
  go_enter Try.func95, Try.ntmps95
  go_wp2_with fail
  go_loop [3, 5, 8] (fun x _ i => ∃ k : Nat, k ≤ z.length ∧ i = .int .i64 k ∧ x = .int .i64 (sumTo (fun i => nth z i) k)) (fun _ _ i => z.length - (intOf i).toNat)
  case atStart => exact ⟨0, by omega, rfl, rfl⟩
  case round =>
    obtain ⟨k, hk, rfl, rfl⟩ := hrel
    have hsz := sum_bd4 hz.out hk
    by_cases hlt : k < z.length
    · have hi := h.idx 32 sliceI sizeI .i64 k (by omega) (by simpa using hlt)
      simp only [Int.toNat_natCast] at hi
      have hc := h.int hlt
      have ha := hz.out k hlt
      have hn := hid (sumTo_succ (fun i => nth z i) k)
      generalize sumTo (fun i => nth z i) k = s at *
      generalize nth z k = a at *
      go_wp2_with fail
      go_round
      case rel => exact ⟨k + 1, by omega, by go_num, by rw [hn.out]⟩
      case measure => simp [intOf] <;> omega
    · obtain rfl : k = z.length := by omega
      go_wp2_with fail
      go_ret
      exact ⟨rfl, rfl⟩

theorem nth_inn {l : List Int} {i : Nat} (h : i < l.length) : nth l i ∈ l := by
  have e : nth l i = l[i] := by simp [nth, h]
  rw [e]; exact List.getElem_mem h
/-- one letter of a word for blocks -/
theorem dwI_step {l zz : List Int} {n k t : Nat} {s : Int} (hk : k < l.length) (hS : Szs zz) (hn : zz.length = n) (hL : Lv n (nth l k)) (ht : (nth l k).natAbs = t + 1) (hs : (nth l k).sign = s) :
    dwI (l.drop k) zz = (bl (sumTo (fun i => nth zz i) t).toNat (nth zz t).toNat (nth zz (t + 1)).toNat).map (s * ·) ++ dwI (l.drop (k + 1)) (swapAt zz t) := by
  have e1 : l.drop k = nth l k :: l.drop (k + 1) := by rw [List.drop_eq_getElem_cons hk]; simp [nth, hk]
  have e2 := dl_nth hS hn hL
  have h2 := hL.2
  unfold dwI
  rw [e1, dw, e2, ht, hs, Nat.add_sub_cancel, sz_swap (by omega)]
theorem dwI_len {l zz : List Int} {n k t : Nat} {s : Int} (hS : Szs zz) (hn : zz.length = n) (hL : Lv n (nth l k)) (ht : (nth l k).natAbs = t + 1) (hs : (nth l k).sign = s) :
    ((bl (sumTo (fun i => nth zz i) t).toNat (nth zz t).toNat (nth zz (t + 1)).toNat).map (s * ·)).length ≤ 16 := by
  have e2 := dl_nth hS hn hL
  have e3 := dl_len hS hn hL
  rw [e2, ht, hs, Nat.add_sub_cancel] at e3
  exact e3


set_option maxRecDepth 100000 in
set_option maxHeartbeats 8000000 in
theorem double_spec (v u : Value) (l z : List Int) (n : Nat) (w : World) (h : Reads w v (ints l)) (h' : Reads w u (ints z)) (hn : n ≤ 12) (hzl : z.length = n) (hz : Szs z) (hl : l.length ≤ 40) (hL : ∀ k ∈ l, Lv n k) :
    Calls Try.prog 99 #[v, u] w fun e w' => ∃ x, e = .returned x ∧ Own w' w.heap.size 2 x (ints (dwI l z)) ∧ Below w.heap.size w w' := by
  have hlen := h.len (P := Try.prog) 32 3 ⟨_, sliceI⟩
  simp only [length_ints] at hlen
  replace hL := hid hL
  replace hz := hid hz
  go_enter Try.func99, Try.ntmps99
  go_wp2_with fail
  refine (own_run u z w h' (by omega)).mono ?_
  rintro e w1 ⟨p, rfl, hp, hb1⟩
  have hz1 := hid hb1.size
  have hO := own_empty w1 2 (B := w1.heap.size) (Nat.le_refl _)
  have hA := (Below.refl w1.heap.size w1).alloc (Nat.le_refl _) (.cells #[] 2)
  have hpA := hid (hp.below hA)
  have hbA := hid (hb1.trans (hA.mono hz1.out))
  have hzA := hid hA.size
  have hpb := hid (fun g (hg : blk p = some g) => (hp.blk_lt hg).2)
  replace hO := hid hO
  clear hA hp hb1
  go_wp2_with fail
  generalize w1.alloc (.cells #[] 2) = w2 at *
  generalize Value.slice (some ⟨w1.heap.size, 0, none⟩) 0 0 = O at *
  go_loopw [6, 7, 8, 9, 10, 11, 12] (fun o i _ _ _ _ _ wr => ∃ (k : Nat) (zz d : List Int), k ≤ l.length ∧ i = .int .i64 k ∧ Hid (Szs zz) ∧ zz.length = n ∧ Hid (d ++ dwI (l.drop k) zz = dwI l z) ∧ d.length ≤ 16 * k ∧ Hid (Own wr w1.heap.size 2 o (ints d)) ∧ Own wr w.heap.size 2 p (ints zz) ∧ Hid (Below w.heap.size w wr) ∧ Hid (w1.heap.size ≤ wr.heap.size)) (fun _ i _ _ _ _ _ _ => l.length - (intOf i).toNat)
  case atStart => exact ⟨0, z, [], by omega, rfl, hz, hzl, hid rfl, by simp, hO, hpA.out, hbA, hzA⟩
  case round =>
    clear hO hpA hbA hz hzl hzA
    obtain ⟨k, zz, d, hk, rfl, hS, hzn, hE, hdl, ho, hown, hb, hzw⟩ := hrel
    by_cases hlt : k < l.length
    case neg =>
      obtain rfl : k = l.length := by omega
      have hd : d = dwI l z := by have := hE.out; rw [List.drop_of_length_le (Nat.le_refl _)] at this; simpa [dwI, dw] using this
      replace hd := hid hd
      go_wp2_with fail
      go_ret
      exact ⟨_, rfl, by rw [← hd.out]; exact ho.out.mono hz1.out, hb.out⟩
    case pos =>
    obtain ⟨q0, q1⟩ := hL.out _ (nth_inn hlt)
    have hi := h.idx (P := Try.prog) 32 sliceI sizeI .i64 k (by omega) (by simpa using hlt)
    simp only [Int.toNat_natCast] at hi
    have hc := (h.below hb.out).int hlt
    obtain ⟨x, hx⟩ : ∃ x, nth l k = x := ⟨_, rfl⟩
    obtain ⟨t, hat⟩ : ∃ t, (nth l k).natAbs = t + 1 := ⟨(nth l k).natAbs - 1, by omega⟩
    have hA := hid (fun w => abs_spec x w (by omega))
    obtain ⟨b, hxb, hbt⟩ : ∃ b : Int, absI x = b ∧ b = (t : Int) + 1 := ⟨_, rfl, by unfold absI; split <;> omega⟩
    have htn : t + 1 < n := by omega
    rw [hx] at hc
    replace hx := hid hx
    replace hat := hid hat
    go_wp2_with fail
    refine (hA.out _).mono ?_
    rintro e w3 ⟨rfl, rfl⟩
    rw [hxb]
    replace hxb := hid hxb
    clear hA
    rename World => wO
    go_wp2_with fail
    go_loop [9, 10] (fun pl j => ∃ r : Nat, r ≤ t ∧ j = .int .i64 r ∧ pl = .int .i64 (sumTo (fun i => nth zz i) r)) (fun _ j => t - (intOf j).toNat)
    case atStart => exact ⟨0, by omega, rfl, rfl⟩
    case round =>
      obtain ⟨r, hr, rfl, rfl⟩ := hrel
      have hsz := sum_bd4 hS.out (k := r) (by omega)
      by_cases hrt : r < t
      · have hir := hown.reads.idx (P := Try.prog) 32 sliceI sizeI .i64 r (by omega) (by simp; omega)
        simp only [Int.toNat_natCast] at hir
        have hcr := hown.reads.int (i := r) (by omega)
        have har := hS.out r (by omega)
        have hnr := hid (sumTo_succ (fun i => nth zz i) r)
        generalize sumTo (fun i => nth zz i) r = s at *
        generalize nth zz r = y at *
        go_wp2_with fail
        go_round
        case rel => exact ⟨r + 1, by omega, by go_num, by rw [hnr.out]⟩
        case measure => simp [intOf] <;> omega
      · obtain rfl : t = r := by omega
        have hzO := hid hb.out.size
        have hi2 := hown.reads.idx (P := Try.prog) 32 sliceI sizeI .i64 (t : Int) (by omega) (by simp; omega)
        have hi3 := hown.reads.idx (P := Try.prog) 32 sliceI sizeI .i64 ((t : Int) + 1) (by omega) (by simp; omega)
        rw [Int.toNat_natCast] at hi2
        rw [show ((t : Int) + 1).toNat = t + 1 by omega] at hi3
        have hwt := Go.IntWalk.i64_in (t : Int) (by omega)
        have hd := hown.reads.cell t _ (ints_at (by omega))
        have hd2 := hown.reads.cell (t + 1) _ (ints_at (by omega))
        have ha1 := hS.out t (by omega)
        have ha2 := hS.out (t + 1) (by omega)
        by_cases hneg : x < 0
        case pos =>
          have hsg := hid (show (nth l k).sign = -1 from by rw [hx.out]; exact sign_neg hneg)
          have hStep := hid (dwI_step hlt hS.out hzn (hL.out _ (nth_inn hlt)) hat.out hsg.out)
          have hLen := dwI_len hS.out hzn (hL.out _ (nth_inn hlt)) hat.out hsg.out
          have hC := hid (fun w' => swap_specI (sumTo (fun i => nth zz i) t) (nth zz t) (nth zz (t + 1)) (-1) w' (by first | exact Or.inl rfl | exact Or.inr rfl) (by omega) (by omega) (by omega) (by omega) (by omega) (by omega))
          have hSw := hid (hS.out.swap (i := t) (by omega))
          generalize hBL : (bl (sumTo (fun i => nth zz i) t).toNat (nth zz t).toNat (nth zz (t + 1)).toNat).map ((-1) * ·) = BL at *
          clear hBL
          generalize sumTo (fun i => nth zz i) t = S at *
          go_wp2_with fail
          have hbD := hid (Below.refl wO.heap.size wO).drew
          go_region_law ((first | (refine step_call4 (hC.out _) (fun _ => by kernel_rfl) rfl (.tmp 45) (.tmp 50) (.tmp 54) (.tmp 55) rfl (by simp [Act.eval]) (by simp [Act.eval]) (by simp [Act.eval]) (by simp [Act.eval]) ?_; rintro e w6 ⟨p6, rfl, hp6, hs6⟩; refine ⟨_, rfl, ?_⟩; have hs6' := hid (hbD.out.trans hs6); obtain ⟨q, w7, hrun, hq, hg7⟩ := app_run (ty := 32) sliceI infoI rfl (ho.out.below hs6'.out) hp6.reads (oneCell_ints _) (Nat.le_trans hzw.out hs6'.out.size) (by simp; omega) (by decide)) | (refine step_app hrun rfl (.tmp 44) (.tmp 56) rfl (by simp [Act.eval]) (by simp [Act.eval]) ?_)))
          all_goals
            have hp7 := (hown.below hs6'.out).keep (w' := w7) fun g hg hgl => hg7.block g hgl (fun e => by have h1 := (ho.out.blk_lt e.symm).1; have h2 := hpb.out g hg; omega)
            have hb7 := hid ((hb.out.trans (hs6'.out.mono hzO.out)).grown hg7 (Nat.le_trans hzO.out hs6'.out.size) (fun j hj => by have h1 := (ho.out.blk_lt hj).1; have h2 := hz1.out; omega))
            have d7 := hp7.reads.cell t _ (ints_at (by omega))
            have d8 := hp7.reads.cell (t + 1) _ (ints_at (by omega))
            have hf := hp7.frozen (i := t) (by simp; omega)
            have hf2 := hp7.frozen (i := t + 1) (by simp; omega)
            have hab := hp7.adr_blk (i := t) (by simp; omega)
            have hab2 := hp7.adr_blk (i := t + 1) (by simp; omega)
            have hne := hp7.adr_ne (i := t) (j := t + 1) (by simp; omega) (by omega)
            have hne2 := hp7.adr_ne (i := t + 1) (j := t) (by simp; omega) (by omega)
            have hst := (hp7.set (i := t) (by simp; omega) (.int .i64 (nth zz (t + 1)))).set (i := t + 1) (by simp; omega) (.int .i64 (nth zz t))
            rw [ints_set, ints_set] at hst
            have hst2 := hid (show Own _ w.heap.size 2 p (ints (swapAt zz t)) from hst)
            have hq2 := hid ((hq.other (a := adr p t) (fun e => by have h1 := (hq.blk_lt e).1; have h2 := hpb.out _ hab.1; omega) (.int .i64 (nth zz (t + 1)))).other (a := adr p (t + 1)) (fun e => by have h1 := (hq.blk_lt e).1; have h2 := hpb.out _ hab2.1; omega) (.int .i64 (nth zz t)))
            have hbF := hid ((hb7.out.setCell hab.2.1 (.int .i64 (nth zz (t + 1)))).setCell hab2.2.1 (.int .i64 (nth zz t)))
            have hEF := hid (show (d ++ BL) ++ dwI (l.drop (k + 1)) (swapAt zz t) = dwI l z by rw [List.append_assoc, ← hStep.out]; exact hE.out)
            have hzF := hid (show w1.heap.size ≤ ((w7.setCell (adr p t) (.int .i64 (nth zz (t + 1)))).setCell (adr p (t + 1)) (.int .i64 (nth zz t))).heap.size from by have h1 := hzw.out; have h2 := hs6'.out.size; have h3 := hg7.size; simp only [World.setCell, Array.size_modify]; omega)
            have hin := hid (show ints (d ++ BL) = ints d ++ ints BL by simp [ints])
            have hlF : (swapAt zz t).length = n := by rw [length_swapAt]; exact hzn
            clear hst hab hab2 hp7 hg7 hq hs6 hp6 hown hd hd2
            go_wp2_with fail
            go_roundw
            case rel => exact ⟨k + 1, swapAt zz t, d ++ BL, by omega, by go_num, hSw, hlF, hEF, by rw [List.length_append]; omega, hid (by rw [hin.out]; exact hq2.out), hst2.out, hbF, hzF⟩
            case measure => simp [intOf] <;> omega

        case neg =>
          have hsg := hid (show (nth l k).sign = 1 from by rw [hx.out]; exact sign_pos (by have := hx.out; omega))
          have hStep := hid (dwI_step hlt hS.out hzn (hL.out _ (nth_inn hlt)) hat.out hsg.out)
          have hLen := dwI_len hS.out hzn (hL.out _ (nth_inn hlt)) hat.out hsg.out
          have hC := hid (fun w' => swap_specI (sumTo (fun i => nth zz i) t) (nth zz t) (nth zz (t + 1)) (1) w' (by first | exact Or.inl rfl | exact Or.inr rfl) (by omega) (by omega) (by omega) (by omega) (by omega) (by omega))
          have hSw := hid (hS.out.swap (i := t) (by omega))
          generalize hBL : (bl (sumTo (fun i => nth zz i) t).toNat (nth zz t).toNat (nth zz (t + 1)).toNat).map ((1) * ·) = BL at *
          clear hBL
          generalize sumTo (fun i => nth zz i) t = S at *
          go_wp2_with fail
          have hbD := hid (Below.refl wO.heap.size wO).drew
          go_region_law ((first | (refine step_call4 (hC.out _) (fun _ => by kernel_rfl) rfl (.tmp 45) (.tmp 50) (.tmp 54) (.tmp 55) rfl (by simp [Act.eval]) (by simp [Act.eval]) (by simp [Act.eval]) (by simp [Act.eval]) ?_; rintro e w6 ⟨p6, rfl, hp6, hs6⟩; refine ⟨_, rfl, ?_⟩; have hs6' := hid (hbD.out.trans hs6); obtain ⟨q, w7, hrun, hq, hg7⟩ := app_run (ty := 32) sliceI infoI rfl (ho.out.below hs6'.out) hp6.reads (oneCell_ints _) (Nat.le_trans hzw.out hs6'.out.size) (by simp; omega) (by decide)) | (refine step_app hrun rfl (.tmp 44) (.tmp 56) rfl (by simp [Act.eval]) (by simp [Act.eval]) ?_)))
          all_goals
            have hp7 := (hown.below hs6'.out).keep (w' := w7) fun g hg hgl => hg7.block g hgl (fun e => by have h1 := (ho.out.blk_lt e.symm).1; have h2 := hpb.out g hg; omega)
            have hb7 := hid ((hb.out.trans (hs6'.out.mono hzO.out)).grown hg7 (Nat.le_trans hzO.out hs6'.out.size) (fun j hj => by have h1 := (ho.out.blk_lt hj).1; have h2 := hz1.out; omega))
            have d7 := hp7.reads.cell t _ (ints_at (by omega))
            have d8 := hp7.reads.cell (t + 1) _ (ints_at (by omega))
            have hf := hp7.frozen (i := t) (by simp; omega)
            have hf2 := hp7.frozen (i := t + 1) (by simp; omega)
            have hab := hp7.adr_blk (i := t) (by simp; omega)
            have hab2 := hp7.adr_blk (i := t + 1) (by simp; omega)
            have hne := hp7.adr_ne (i := t) (j := t + 1) (by simp; omega) (by omega)
            have hne2 := hp7.adr_ne (i := t + 1) (j := t) (by simp; omega) (by omega)
            have hst := (hp7.set (i := t) (by simp; omega) (.int .i64 (nth zz (t + 1)))).set (i := t + 1) (by simp; omega) (.int .i64 (nth zz t))
            rw [ints_set, ints_set] at hst
            have hst2 := hid (show Own _ w.heap.size 2 p (ints (swapAt zz t)) from hst)
            have hq2 := hid ((hq.other (a := adr p t) (fun e => by have h1 := (hq.blk_lt e).1; have h2 := hpb.out _ hab.1; omega) (.int .i64 (nth zz (t + 1)))).other (a := adr p (t + 1)) (fun e => by have h1 := (hq.blk_lt e).1; have h2 := hpb.out _ hab2.1; omega) (.int .i64 (nth zz t)))
            have hbF := hid ((hb7.out.setCell hab.2.1 (.int .i64 (nth zz (t + 1)))).setCell hab2.2.1 (.int .i64 (nth zz t)))
            have hEF := hid (show (d ++ BL) ++ dwI (l.drop (k + 1)) (swapAt zz t) = dwI l z by rw [List.append_assoc, ← hStep.out]; exact hE.out)
            have hzF := hid (show w1.heap.size ≤ ((w7.setCell (adr p t) (.int .i64 (nth zz (t + 1)))).setCell (adr p (t + 1)) (.int .i64 (nth zz t))).heap.size from by have h1 := hzw.out; have h2 := hs6'.out.size; have h3 := hg7.size; simp only [World.setCell, Array.size_modify]; omega)
            have hin := hid (show ints (d ++ BL) = ints d ++ ints BL by simp [ints])
            have hlF : (swapAt zz t).length = n := by rw [length_swapAt]; exact hzn
            clear hst hab hab2 hp7 hg7 hq hs6 hp6 hown hd hd2
            go_wp2_with fail
            go_roundw
            case rel => exact ⟨k + 1, swapAt zz t, d ++ BL, by omega, by go_num, hSw, hlF, hEF, by rw [List.length_append]; omega, hid (by rw [hin.out]; exact hq2.out), hst2.out, hbF, hzF⟩
            case measure => simp [intOf] <;> omega



end Go.Proofs.Ytmeccemnmkobbaa

namespace Go.Proofs.Ytmeccemnmkobbaa
open Go.RowKit
open Pm

theorem codeD_bad {n : Int} {l z : List Int} (h : okD n l z = false) : codeD n l z = 1 := by unfold codeD; rw [h]; rfl
theorem codeD_rng {n : Int} {l z : List Int} (h : okD n l z = true) (h2 : szsB z = false) : codeD n l z = 2 := by unfold codeD; rw [h, h2]; rfl
theorem codeD_full {n : Int} {l z : List Int} (h : okD n l z = true) (h2 : szsB z = true) (h3 : ¬ (sumF z ≤ 12 ∧ (dwI l z).length ≤ 40)) : codeD n l z = 5 := by unfold codeD; rw [h, h2, if_neg h3]; rfl
theorem codeD_ok {n : Int} {l z : List Int} (h : okD n l z = true) (h2 : szsB z = true) (h3 : sumF z ≤ 12 ∧ (dwI l z).length ≤ 40) : codeD n l z = 0 := by unfold codeD; rw [h, h2, if_pos h3]; rfl
theorem okD_no1 {n : Int} {l z : List Int} (h : okB n l = false) : okD n l z = false := by unfold okD; rw [h]; rfl
theorem okD_no2 {n : Int} {l z : List Int} (h : ¬ (z.length : Int) = n) : okD n l z = false := by unfold okD; rw [decide_eq_false h, Bool.and_false]
theorem okD_yes {n : Int} {l z : List Int} (h : okB n l = true) (h2 : (z.length : Int) = n) : okD n l z = true := by unfold okD; rw [h, decide_eq_true h2]; rfl
theorem nD_no {n : Int} {l z : List Int} {c : Int} (h : codeD n l z = c) (h0 : c ≠ 0) : nD n l z = 0 := by unfold nD; rw [h, if_neg h0]
theorem lD_no {n : Int} {l z : List Int} {c : Int} (h : codeD n l z = c) (h0 : c ≠ 0) : lD n l z = [] := by unfold lD; rw [h, if_neg h0]
theorem nD_yes {n : Int} {l z : List Int} (h : codeD n l z = 0) : nD n l z = sumF z := by unfold nD; rw [h]; rfl
theorem lD_yes {n : Int} {l z : List Int} (h : codeD n l z = 0) : lD n l z = dwI l z := by unfold lD; rw [h]; rfl
theorem szs_no {z : List Int} {k : Nat} (hk : k < z.length) (h : inB (nth z k) 0 4 = false) : szsB z = false := by
  cases e : szsB z with
  | false => rfl
  | true =>
    unfold szsB at e
    rw [List.all_eq_true] at e
    have := e k (by simpa using hk)
    rw [h] at this; cases this
theorem szs_yes {z : List Int} (h : ∀ j, j < z.length → inB (nth z j) 0 4 = true) : szsB z = true := by
  unfold szsB
  rw [List.all_eq_true]
  intro j hj
  exact h j (by simpa using hj)
theorem sum_bdB {z : List Int} {k : Nat} (h : ∀ j, j < k → inB (nth z j) 0 4 = true) : 0 ≤ sumTo (fun i => nth z i) k ∧ sumTo (fun i => nth z i) k ≤ 4 * k := by
  have h1 := sumTo_nonneg (f := fun i => nth z i) (k := k) fun i hi => (inB_yes' (h i hi)).1
  have h2 := sumTo_le (f := fun i => nth z i) (k := k) (b := 4) fun i hi => (inB_yes' (h i hi)).2
  omega
theorem okB_lv {n : Nat} {l : List Int} (h : okB (n : Int) l = true) : ∀ k ∈ l, Lv n k := by
  unfold okB at h
  simp only [Bool.and_eq_true] at h
  exact lv_letters h.2


set_option maxRecDepth 100000 in
set_option maxHeartbeats 8000000 in
theorem DoubleS (n : Int) (v : Value) (l : List Int) (u : Value) (z : List Int) (w : World) (h : Reads w v (ints l)) (h' : Reads w u (ints z)) :
    Calls Try.prog 44 #[.agg #[.int .i64 n, v], u] w fun e w' => ∃ x, e = .returned (.tuple #[.agg #[.int .i64 (nD n l z), x], .int .i64 (codeD n l z)]) ∧ Own w' w.heap.size 2 x (ints (lD n l z)) ∧ Below w.heap.size w w' := by
  have hs' := h'.small
  have hlen := h'.len (P := Try.prog) 32 3 ⟨_, sliceI⟩
  simp only [length_ints] at hlen hs'
  have hA0 := Bx.alloc (Bx.new w #[.int .i64 n, v] 35) (.cells #[.int .i64 0, .slice none 0 0] 35)
  have hR0 := Bx.new (w.alloc (.cells #[.int .i64 n, v] 35)) #[.int .i64 0, .slice none 0 0] 35
  have hr0 := reads_alloc (reads_alloc h (.cells #[.int .i64 n, v] 35)) (.cells #[.int .i64 0, .slice none 0 0] 35)
  have hu0 := reads_alloc (reads_alloc h' (.cells #[.int .i64 n, v] 35)) (.cells #[.int .i64 0, .slice none 0 0] 35)
  have hb0 : Below w.heap.size w ((w.alloc (.cells #[.int .i64 n, v] 35)).alloc (.cells #[.int .i64 0, .slice none 0 0] 35)) := ((Below.refl _ _).alloc (Nat.le_refl _) _).alloc (by simp) _
  have A00 := hA0.cell 0 rfl
  have A01 := hA0.cell 1 rfl
  go_enter Try.func44, Try.ntmps44
  go_wp2_with fail
  refine (bok_spec w.heap.size 0 n v l _ A00 A01 hr0).mono ?_
  rintro e w1 ⟨rfl, hs1⟩
  have hb1 := hb0.trans (hs1.mono hb0.size)
  have hA1 := hA0.below hs1
  have hR1 := hR0.below hs1
  have hr1 := hr0.below hs1
  have hu1 := hu0.below hs1
  have hz1 := hR1.lt
  simp only [World.size_alloc] at hz1 hA1 hR1
  clear hs1 hb0 hA0 hR0 hr0 hu0 A00 A01
  have A10 := hA1.cell 0 rfl
  have A11 := hA1.cell 1 rfl
  have R10 := hR1.cell 0 rfl
  have R11 := hR1.cell 1 rfl
  have F10 := hR1.frozen 0
  have F11 := hR1.frozen 1
  have g5 := (hR1.set 0 (.int .i64 0)).set 1 (.slice none 0 0)
  have g50 := g5.cell 0 rfl
  have g51 := g5.cell 1 rfl
  have hbF := hid ((hb1.setCell (p := ⟨w.heap.size + 1, 0, none⟩) (by simp) (.int .i64 0)).setCell (p := ⟨w.heap.size + 1, 1, none⟩) (by simp) (.slice none 0 0))
  clear g5
  cases e1 : okB n l with
  | false =>
    have hcode := hid (codeD_bad (okD_no1 (z := z) e1))
    go_wp2_with fail
    refine bodyPost_ret (v := .tuple #[.agg #[.int .i64 0, .slice none 0 0], .int .i64 1]) (by simp [g50, g51, results, Try.results44, go_sem]) rfl ⟨_, by rw [hcode.out, nD_no hcode.out (by decide)], by rw [lD_no hcode.out (by decide)]; exact own_nilB _ _ _, hbF.out⟩
  | true =>
  obtain ⟨q0, q1, q2, -⟩ := okB_of e1
  by_cases hzn : (z.length : Int) = n
  case neg =>
    have hne : ((z.length : Int) != n) = true := by simpa [bne_iff_ne] using hzn
    have hcode := hid (codeD_bad (okD_no2 (l := l) hzn))
    clear hzn
    go_wp2_with fail
    refine bodyPost_ret (v := .tuple #[.agg #[.int .i64 0, .slice none 0 0], .int .i64 1]) (by simp [g50, g51, results, Try.results44, go_sem]) rfl ⟨_, by rw [hcode.out, nD_no hcode.out (by decide)], by rw [lD_no hcode.out (by decide)]; exact own_nilB _ _ _, hbF.out⟩
  case pos =>
  have hne : ((z.length : Int) != n) = false := by simp [bne, hzn]
  have hok := hid (okD_yes e1 hzn)
  have hlv := hid (show ∀ k ∈ l, Lv z.length k from okB_lv (by rw [hzn]; exact e1))
  have hz12 : z.length ≤ 12 := by omega
  have hzn' := hid hzn
  clear hzn
  go_wp2_with fail
  clear hne
  go_loop [6, 7] (fun s i => ∃ k : Nat, k ≤ z.length ∧ i = .int .i64 k ∧ s = .int .i64 (sumTo (fun i => nth z i) k) ∧ Hid (∀ j, j < k → inB (nth z j) 0 4 = true)) (fun _ i => z.length - (intOf i).toNat)
  case atStart => exact ⟨0, by omega, rfl, rfl, hid fun j hj => absurd hj (by omega)⟩
  case round =>
    obtain ⟨k, hk, rfl, rfl, hS⟩ := hrel
    have hsz := sum_bdB hS.out
    by_cases hlt : k < z.length
    case pos =>
      have hi := h'.idx (P := Try.prog) 32 sliceI sizeI .i64 k (by omega) (by simpa using hlt)
      simp only [Int.toNat_natCast] at hi
      have hc := hu1.int hlt
      have hn := hid (sumTo_succ (fun i => nth z i) k)
      cases e2 : inB (nth z k) 0 4 with
      | false =>
        have hcode := hid (codeD_rng hok.out (szs_no hlt e2))
        generalize sumTo (fun i => nth z i) k = s at *
        generalize nth z k = a at *
        go_wp2_with (go_at_call 98; refine (in_spec _ _ _ _).mono ?_; rintro e w2 ⟨rfl, rfl⟩; rw [e2])
        refine bodyPost_ret (v := .tuple #[.agg #[.int .i64 0, .slice none 0 0], .int .i64 2]) (by simp [g50, g51, results, Try.results44, go_sem]) rfl ⟨_, by rw [hcode.out, nD_no hcode.out (by decide)], by rw [lD_no hcode.out (by decide)]; exact own_nilB _ _ _, hbF.out⟩
      | true =>
        have hS2 := hid (forall_snoc hS.out e2)
        have ha := inB_yes' e2
        generalize sumTo (fun i => nth z i) k = s at *
        generalize nth z k = a at *
        go_wp2_with (go_at_call 98; refine (in_spec _ _ _ _).mono ?_; rintro e w2 ⟨rfl, rfl⟩; rw [e2])
        go_round
        case rel => exact ⟨k + 1, by omega, by go_num, by rw [hn.out], hS2⟩
        case measure => simp [intOf] <;> omega
    case neg =>
    obtain rfl : k = z.length := by omega
    have hzs := szs_yes hS.out
    have hZ := hid (szsB_iff.1 hzs)
    replace hzs := hid hzs
    have hsum : sumTo (fun i => nth z i) z.length = sumF z := rfl
    rw [hsum] at hsz ⊢
    have hokw := hid (okB_dw (l := l) rfl hlv.out hZ.out)
    clear hsum
    obtain ⟨S, hSe⟩ : ∃ S, sumF z = S := ⟨_, rfl⟩
    rw [hSe] at hsz ⊢
    have hokw := hid (show okB S (dwI l z) = decide (S ≤ 12 ∧ (dwI l z).length ≤ 40) by rw [← hSe]; exact hokw.out)
    replace hSe := hid hSe
    go_wp2_with fail
    refine (double_spec v u l z z.length w1 hr1 hu1 hz12 rfl hZ.out q2 hlv.out).mono ?_
    rintro e w2 ⟨x, rfl, hx, hb2⟩
    obtain ⟨xa, xn, xc, rfl⟩ := hx.form3
    have hbx := hb1.trans (hb2.mono hb1.size)
    have hA2 := (hA1.below hb2).alloc (.cells #[.int .i64 S, .slice xa xn xc] 35)
    have hR2 := (hR1.below hb2).alloc (.cells #[.int .i64 S, .slice xa xn xc] 35)
    have hX2 := Bx.new w2 #[.int .i64 S, .slice xa xn xc] 35
    have hx2 := own_alloc hx (.cells #[.int .i64 S, .slice xa xn xc] 35)
    have hbx2 := hbx.alloc hbx.size (.cells #[.int .i64 S, .slice xa xn xc] 35)
    have hz12' := hb2.size
    clear g50 g51 hbF A10 A11 R10 R11 F10 F11 hA1 hR1 hr1 hu1 hx hbx hb2 hb1
    have X0 := hX2.cell 0 rfl
    have X1 := hX2.cell 1 rfl
    replace hx2 := hid hx2
    replace hbx2 := hid hbx2
    go_wp2_with fail
    refine (bok_spec w2.heap.size 0 S (.slice xa xn xc) (dwI l z) _ X0 X1 hx2.out.reads).mono ?_
    rintro e w3 ⟨rfl, hs3⟩
    have hR3 := hR2.below hs3
    have hX3 := hX2.below hs3
    have hx3 := hid (hx2.out.below hs3)
    have hb3 := hid (hbx2.out.trans (hs3.mono hbx2.out.size))
    clear X0 X1 hA2 hR2 hX2 hs3 hx2 hbx2
    have R30 := hR3.cell 0 rfl
    have R31 := hR3.cell 1 rfl
    have F30 := hR3.frozen 0
    have F31 := hR3.frozen 1
    have X30 := hX3.cell 0 rfl
    have X31 := hX3.cell 1 rfl
    rw [hokw.out]
    by_cases h12 : S ≤ 12 ∧ (dwI l z).length ≤ 40
    case neg =>
      have hcode := hid (codeD_full hok.out hzs.out (by rw [hSe.out]; exact h12))
      have g5 := (hR3.set 0 (.int .i64 0)).set 1 (.slice none 0 0)
      have g50 := g5.cell 0 rfl
      have g51 := g5.cell 1 rfl
      rw [decide_eq_false h12]
      clear h12
      go_wp2_with fail
      refine bodyPost_ret (v := .tuple #[.agg #[.int .i64 0, .slice none 0 0], .int .i64 5]) (by simp [g50, g51, results, Try.results44, go_sem]) rfl ⟨_, by rw [hcode.out, nD_no hcode.out (by decide)], by rw [lD_no hcode.out (by decide)]; exact own_nilB _ _ _, (hb3.out.setCell (p := ⟨w.heap.size + 1, 0, none⟩) (by simp) (.int .i64 0)).setCell (p := ⟨w.heap.size + 1, 1, none⟩) (by simp) (.slice none 0 0)⟩
    case pos =>
      have hcode := hid (codeD_ok hok.out hzs.out (by rw [hSe.out]; exact h12))
      have g5 := (hR3.set 0 (.int .i64 S)).set 1 (.slice xa xn xc)
      have g50 := g5.cell 0 rfl
      have g51 := g5.cell 1 rfl
      rw [decide_eq_true h12]
      clear h12
      go_wp2_with fail
      refine bodyPost_ret (v := .tuple #[.agg #[.int .i64 S, .slice xa xn xc], .int .i64 0]) (by simp [g50, g51, results, Try.results44, go_sem]) rfl ⟨_, by rw [hcode.out, nD_yes hcode.out, hSe.out], ?_, (hb3.out.setCell (p := ⟨w.heap.size + 1, 0, none⟩) (by simp) (.int .i64 S)).setCell (p := ⟨w.heap.size + 1, 1, none⟩) (by simp) (.slice xa xn xc)⟩
      rw [lD_yes hcode.out]
      have t1 := hx3.out.set_block (g := w.heap.size + 1) (by omega) 0 (.int .i64 S)
      have t2 := t1.set_block (g := w.heap.size + 1) (by omega) 1 (.slice xa xn xc)
      exact t2.mono (by omega)


end Go.Proofs.Ytmeccemnmkobbaa

namespace Go.Proofs.Ytmeccemnmkobbaa
open Go.RowKit
open Pm

set_option maxRecDepth 100000 in
set_option maxHeartbeats 1000000 in
theorem szclo (k : Int) (w : World) :
    Calls Try.prog 94 #[.int .i64 k] w fun e w' => e = .returned (.bool (!inB k 0 4)) ∧ w = w' := by
  go_enter Try.func94, Try.ntmps94
  go_wp2_with (go_at_call 57; refine (in_impl _ _ _ _).mono ?_; rintro e w1 ⟨rfl, rfl⟩)
  cases e2 : inB k 0 4 with
  | true =>
    go_wp2_with fail
    go_ret
    exact ⟨rfl, rfl⟩
  | false =>
    go_wp2_with fail
    go_ret
    exact ⟨rfl, rfl⟩

set_option maxRecDepth 100000 in
set_option maxHeartbeats 1000000 in
theorem idxSz (v : Value) (l : List Int) (w : World) (h : Reads w v (ints l)) :
    Calls Try.prog 127 #[v, .func (.func 94) #[] #[]] w fun e w' => (∃ q : Int, e = .returned (.int .i64 q) ∧ decide (0 ≤ q) = (List.range l.length).any fun i => !inB (nth l i) 0 4) ∧ w = w' := by
  have hs := h.small
  have hlen := h.len (P := Try.prog) 32 3 ⟨_, sliceI⟩
  simp only [length_ints] at hs hlen
  go_enter Try.func127, Try.ntmps127
  go_wp2_with fail
  go_loop [5, 8] (fun _ i => ∃ k : Nat, k ≤ l.length ∧ i = .int .i64 k ∧ ((List.range k).any fun i => !inB (nth l i) 0 4) = false) (fun _ i => l.length - (intOf i).toNat)
  case atStart => exact ⟨0, by omega, rfl, rfl⟩
  case round =>
    obtain ⟨k, hk, rfl, hok⟩ := hrel
    by_cases hlt : k < l.length
    · have hi := h.idx 32 sliceI sizeI .i64 k (by omega) (by simpa using hlt)
      simp only [Int.toNat_natCast] at hi
      have hc := h.int hlt
      have hC := hid (fun a => szclo a w)
      cases e1 : (!inB (nth l k) 0 4) with
      | true =>
        have hyes := hid (any_yes (p := fun i => !inB (nth l i) 0 4) (m := l.length) hlt e1)
        generalize hx : nth l k = a at *
        have hX := hid hx
        clear hx hok
        go_wp2_with (go_at_call 94; refine (hC.out _).mono ?_; rintro e w1 ⟨rfl, rfl⟩; rw [e1])
        go_ret
        refine ⟨⟨_, rfl, ?_⟩, rfl⟩
        rw [hyes.out]; simp
      | false =>
        have hno := hid (any_no (p := fun i => !inB (nth l i) 0 4) hok e1)
        generalize hx : nth l k = a at *
        have hX := hid hx
        clear hx hok
        go_wp2_with (go_at_call 94; refine (hC.out _).mono ?_; rintro e w1 ⟨rfl, rfl⟩; rw [e1])
        go_round
        case rel => exact ⟨k + 1, by omega, by go_num, hno.out⟩
        case measure => simp [intOf]; omega
    · obtain rfl : k = l.length := by omega
      go_wp2_with fail
      go_ret
      exact ⟨⟨-1, rfl, by first | (rw [hok]; rfl) | (simp)⟩, rfl⟩
theorem any_szs (l : List Int) : ((List.range l.length).any fun i => !inB (nth l i) 0 4) = !szsB l := by
  unfold szsB
  rw [List.not_all_eq_any_not]
set_option maxRecDepth 100000 in
set_option maxHeartbeats 1000000 in
theorem contSz (v : Value) (l : List Int) (w : World) (h : Reads w v (ints l)) :
    Calls Try.prog 93 #[v, .func (.func 94) #[] #[]] w fun e w' => e = .returned (.bool (!szsB l)) ∧ w = w' := by
  go_enter Try.func93, Try.ntmps93
  go_wp2_with (go_at_call 127; refine (idxSz v l _ (by assumption)).mono ?_; rintro e w1 ⟨⟨q, rfl, hq⟩, rfl⟩)
  go_ret
  exact ⟨by rw [← any_szs, ← hq]; rfl, rfl⟩


set_option maxRecDepth 100000 in
set_option maxHeartbeats 16000000 in
theorem DoubleI (n : Int) (v : Value) (l : List Int) (u : Value) (z : List Int) (w : World) (h : Reads w v (ints l)) (h' : Reads w u (ints z)) :
    Calls Try.prog 43 #[.agg #[.int .i64 n, v], u] w fun e w' => ∃ x, e = .returned (.tuple #[.agg #[.int .i64 (nD n l z), x], .int .i64 (codeD n l z)]) ∧ Own w' w.heap.size 2 x (ints (lD n l z)) ∧ Below w.heap.size w w' := by
  have hs0 := h.small
  have hs' := h'.small
  have hlv0 := h.len (P := Try.prog) 32 3 ⟨_, sliceI⟩
  have hlen := h'.len (P := Try.prog) 32 3 ⟨_, sliceI⟩
  simp only [length_ints] at hlen hs' hlv0 hs0
  have hA0 := Bx.alloc (Bx.new w #[.int .i64 n, v] 35) (.cells #[.int .i64 0, .slice none 0 0] 35)
  have hR0 := Bx.new (w.alloc (.cells #[.int .i64 n, v] 35)) #[.int .i64 0, .slice none 0 0] 35
  have hr0 := reads_alloc (reads_alloc h (.cells #[.int .i64 n, v] 35)) (.cells #[.int .i64 0, .slice none 0 0] 35)
  have hb0 : Below w.heap.size w ((w.alloc (.cells #[.int .i64 n, v] 35)).alloc (.cells #[.int .i64 0, .slice none 0 0] 35)) := ((Below.refl _ _).alloc (Nat.le_refl _) _).alloc (by simp) _
  have A00 := hA0.cell 0 rfl
  have A01 := hA0.cell 1 rfl
  go_enter Try.func43, Try.ntmps43
  go_wp2_with fail
  refine (vb_impl n v l _ hr0).mono ?_
  rintro e w1 ⟨rfl, hs1⟩
  have hb1 := hb0.trans (hs1.mono hb0.size)
  have hA1 := hA0.below hs1
  have hR1 := hR0.below hs1
  have hz1 := hR1.lt
  simp only [World.size_alloc] at hz1 hA1 hR1
  clear hs1 hb0 hA0 hR0 hr0 A00 A01
  have A10 := hA1.cell 0 rfl
  have A11 := hA1.cell 1 rfl
  have R10 := hR1.cell 0 rfl
  have R11 := hR1.cell 1 rfl
  have F10 := hR1.frozen 0
  have F11 := hR1.frozen 1
  have g5 := (hR1.set 0 (.int .i64 0)).set 1 (.slice none 0 0)
  have g50 := g5.cell 0 rfl
  have g51 := g5.cell 1 rfl
  have hbF := hid ((hb1.setCell (p := ⟨w.heap.size + 1, 0, none⟩) (by simp) (.int .i64 0)).setCell (p := ⟨w.heap.size + 1, 1, none⟩) (by simp) (.slice none 0 0))
  clear g5
  cases e1 : okB n l with
  | false =>
    have hcode := hid (codeD_bad (okD_no1 (z := z) e1))
    go_wp2_with fail
    refine bodyPost_ret (v := .tuple #[.agg #[.int .i64 0, .slice none 0 0], .int .i64 1]) (by simp [g50, g51, results, Try.results43, go_sem]) rfl ⟨_, by rw [hcode.out, nD_no hcode.out (by decide)], by rw [lD_no hcode.out (by decide)]; exact own_nilB _ _ _, hbF.out⟩
  | true =>
  obtain ⟨q0, q1, q2, -⟩ := okB_of e1
  by_cases hzn : (z.length : Int) = n
  case neg =>
    have hne : ((z.length : Int) != n) = true := by simpa [bne_iff_ne] using hzn
    have hcode := hid (codeD_bad (okD_no2 (l := l) hzn))
    clear hzn
    go_wp2_with fail
    refine bodyPost_ret (v := .tuple #[.agg #[.int .i64 0, .slice none 0 0], .int .i64 1]) (by simp [g50, g51, results, Try.results43, go_sem]) rfl ⟨_, by rw [hcode.out, nD_no hcode.out (by decide)], by rw [lD_no hcode.out (by decide)]; exact own_nilB _ _ _, hbF.out⟩
  case pos =>
  have hne : ((z.length : Int) != n) = false := by simp [bne, hzn]
  have hok := hid (okD_yes e1 hzn)
  have hlv := hid (show ∀ k ∈ l, Lv z.length k from okB_lv (by rw [hzn]; exact e1))
  have hz12 : z.length ≤ 12 := by omega
  have hzn' := hid hzn
  clear hzn
  go_wp2_with fail
  refine (contSz u z w1 (h'.below hb1)).mono ?_
  rintro e w2 ⟨rfl, rfl⟩
  cases hzs : szsB z with
  | false =>
    have hcode := hid (codeD_rng hok.out hzs)
    go_wp2_with fail
    refine bodyPost_ret (v := .tuple #[.agg #[.int .i64 0, .slice none 0 0], .int .i64 2]) (by simp [g50, g51, results, Try.results43, go_sem]) rfl ⟨_, by rw [hcode.out, nD_no hcode.out (by decide)], by rw [lD_no hcode.out (by decide)]; exact own_nilB _ _ _, hbF.out⟩
  | true =>
  have hZ := hid (szsB_iff.1 hzs)
  replace hzs := hid hzs
  go_wp2_with fail
  refine (sum_impl u z w1 (h'.below hb1) hZ.out (by omega)).mono ?_
  rintro e w2 ⟨rfl, rfl⟩
  have hsz := sum_bd4 hZ.out (k := z.length) (Nat.le_refl _)
  have hsum : sumTo (fun i => nth z i) z.length = sumF z := rfl
  rw [hsum] at hsz
  clear hsum
  obtain ⟨S, hSe⟩ : ∃ S, sumF z = S := ⟨_, rfl⟩
  rw [hSe] at hsz ⊢
  replace hSe := hid hSe
  have hA2 := hA1.alloc (.cells #[.int .i64 S, .slice none 0 0] 35)
  have hR2 := hR1.alloc (.cells #[.int .i64 S, .slice none 0 0] 35)
  have hX2 := Bx.new w1 #[.int .i64 S, .slice none 0 0] 35
  have hb2 := hb1.alloc hb1.size (.cells #[.int .i64 S, .slice none 0 0] 35)
  have hz2 : (w1.alloc (.cells #[.int .i64 S, .slice none 0 0] 35)).heap.size = w1.heap.size + 1 := by simp
  clear g50 g51 hbF A10 A11 R10 R11 F10 F11 hA1 hR1 hne
  replace hb1 := hid hb1
  go_wp2_with fail
  refine (clone_run u z _ (h'.below hb2) (by omega)).mono ?_
  rintro e w3 ⟨p, rfl, hp, hs3⟩
  have hA3 := hA2.below hs3
  have hR3 := hR2.below hs3
  have hX3 := hX2.below hs3
  have hb3 := hid (hb2.trans (hs3.mono hb2.size))
  have hpb := hid (fun g (hg : blk p = some g) => hp.blk_lt hg)
  have hz3 := hs3.size
  rw [hz2] at hz3
  rw [hz2] at hpb
  have hp3 := hid (hp.mono (B' := w1.heap.size + 1) (by omega))
  clear hA2 hR2 hX2 hb2 hs3 hp
  have A30 := hA3.cell 0 rfl
  have A31 := hA3.cell 1 rfl
  replace hA3 := hid hA3
  replace hR3 := hid hR3
  replace hX3 := hid hX3
  go_wp2_with fail
  clear hz2
  go_loopw [9, 10, 33] (fun _ _ i wr => ∃ (k : Nat) (zz d : List Int) (o : Value), k ≤ l.length ∧ i = .int .i64 k ∧ Hid (Szs zz) ∧ zz.length = z.length ∧ Hid (d ++ dwI (l.drop k) zz = dwI l z) ∧ d.length ≤ 16 * k ∧ Bx wr (w.heap.size + 1) [.int .i64 0, .slice none 0 0] ∧ Bx wr w1.heap.size [.int .i64 S, o] ∧ Own wr w3.heap.size 2 o (ints d) ∧ Own wr (w1.heap.size + 1) 2 p (ints zz) ∧ Hid (Below w.heap.size w wr) ∧ Hid (w3.heap.size ≤ wr.heap.size)) (fun _ _ i _ => l.length - (intOf i).toNat)
  case atStart => exact ⟨0, z, [], .slice none 0 0, by omega, rfl, hZ, rfl, hid rfl, by simp, hR3.out, hX3.out, Own.nilv _ _ _, hp3.out, hb3, hid (Nat.le_refl _)⟩
  case round =>
    clear hA3 hR3 hX3 hp3 hb3 A30 A31
    obtain ⟨k, zz, d, o, hk, rfl, hS, hzn, hE, hdl, hR, hX, ho, hown, hb, hzw⟩ := hrel
    by_cases hlt : k < l.length
    case neg =>
      obtain rfl : k = l.length := by omega
      have hd : d = dwI l z := by have := hE.out; rw [List.drop_of_length_le (Nat.le_refl _)] at this; simpa [dwI, dw] using this
      subst hd
      obtain ⟨oa, on, oc, rfl⟩ := ho.form3
      have R0 := hR.cell 0 rfl
      have R1 := hR.cell 1 rfl
      have F0 := hR.frozen 0
      have F1 := hR.frozen 1
      have X0 := hX.cell 0 rfl
      have X1 := hX.cell 1 rfl
      have hlno := ho.reads.len (P := Try.prog) 32 3 ⟨_, sliceI⟩
      rw [length_ints] at hlno
      have g5 := (hR.set 0 (.int .i64 0)).set 1 (.slice none 0 0)
      have g6 := (hR.set 0 (.int .i64 S)).set 1 (.slice oa on oc)
      have g50 := g5.cell 0 rfl
      have g51 := g5.cell 1 rfl
      have g60 := g6.cell 0 rfl
      have g61 := g6.cell 1 rfl
      replace ho := hid ho
      clear g5 g6
      by_cases hS12 : S ≤ 12
      case neg =>
        have h12 : ¬ (S ≤ 12 ∧ (dwI l z).length ≤ 40) := fun e => hS12 e.1
        have hcode := hid (codeD_full hok.out hzs.out (by rw [hSe.out]; exact h12))
        have hgt : (12 : Int) < S := by omega
        clear h12 hS12
        go_wp2_with fail
        refine bodyPost_ret (v := .tuple #[.agg #[.int .i64 0, .slice none 0 0], .int .i64 5]) (by simp [g50, g51, results, Try.results43, go_sem]) rfl ⟨_, by rw [hcode.out, nD_no hcode.out (by decide)], by rw [lD_no hcode.out (by decide)]; exact own_nilB _ _ _, (hb.out.setCell (p := ⟨w.heap.size + 1, 0, none⟩) (by simp) (.int .i64 0)).setCell (p := ⟨w.heap.size + 1, 1, none⟩) (by simp) (.slice none 0 0)⟩
      case pos =>
      have hgt : ¬ (12 : Int) < S := by omega
      by_cases hd40 : (dwI l z).length ≤ 40
      case neg =>
        have h12 : ¬ (S ≤ 12 ∧ (dwI l z).length ≤ 40) := fun e => hd40 e.2
        have hcode := hid (codeD_full hok.out hzs.out (by rw [hSe.out]; exact h12))
        have hgt2 : (40 : Int) < ((dwI l z).length : Int) := by omega
        clear h12 hd40
        go_wp2_with fail
        refine bodyPost_ret (v := .tuple #[.agg #[.int .i64 0, .slice none 0 0], .int .i64 5]) (by simp [g50, g51, results, Try.results43, go_sem]) rfl ⟨_, by rw [hcode.out, nD_no hcode.out (by decide)], by rw [lD_no hcode.out (by decide)]; exact own_nilB _ _ _, (hb.out.setCell (p := ⟨w.heap.size + 1, 0, none⟩) (by simp) (.int .i64 0)).setCell (p := ⟨w.heap.size + 1, 1, none⟩) (by simp) (.slice none 0 0)⟩
      case pos =>
        have hcode := hid (codeD_ok hok.out hzs.out (by rw [hSe.out]; exact ⟨hS12, hd40⟩))
        have hgt2 : ¬ (40 : Int) < ((dwI l z).length : Int) := by omega
        clear hS12 hd40
        go_wp2_with fail
        refine bodyPost_ret (v := .tuple #[.agg #[.int .i64 S, .slice oa on oc], .int .i64 0]) (by simp [g60, g61, results, Try.results43, go_sem]) rfl ⟨_, by rw [hcode.out, nD_yes hcode.out, hSe.out], ?_, (hb.out.setCell (p := ⟨w.heap.size + 1, 0, none⟩) (by simp) (.int .i64 S)).setCell (p := ⟨w.heap.size + 1, 1, none⟩) (by simp) (.slice oa on oc)⟩
        rw [lD_yes hcode.out]
        have t1 := ho.out.set_block (g := w.heap.size + 1) (by omega) 0 (.int .i64 S)
        have t2 := t1.set_block (g := w.heap.size + 1) (by omega) 1 (.slice oa on oc)
        exact t2.mono (by omega)
    case pos =>
    obtain ⟨x0, x1⟩ := hlv.out _ (nth_inn hlt)
    have hi := h.idx (P := Try.prog) 32 sliceI sizeI .i64 k (by omega) (by simpa using hlt)
    simp only [Int.toNat_natCast] at hi
    have hc := (h.below hb.out).int hlt
    obtain ⟨x, hx⟩ : ∃ x, nth l k = x := ⟨_, rfl⟩
    obtain ⟨t, hat⟩ : ∃ t, (nth l k).natAbs = t + 1 := ⟨(nth l k).natAbs - 1, by omega⟩
    have htn : t + 1 < zz.length := by omega
    have hxb : absI x = (t : Int) + 1 := by unfold absI; split <;> omega
    have hA := hid (fun w => by have := size_impl x w (by omega); rw [hxb] at this; exact this)
    have ht0 : (t : Int) + 1 ≠ 0 := by omega
    obtain ⟨s, hq, hs1, hsg⟩ : ∃ s : Int, x.tdiv ((t : Int) + 1) = s ∧ (s = 1 ∨ s = -1) ∧ x.sign = s := by
      rcases Int.lt_trichotomy x 0 with h0 | h0 | h0
      · have e : x = -((t : Int) + 1) := by omega
        exact ⟨-1, by rw [e, Int.neg_tdiv, Int.tdiv_self ht0], .inr rfl, sign_neg h0⟩
      · omega
      · have e : x = (t : Int) + 1 := by omega
        exact ⟨1, by rw [e, Int.tdiv_self ht0], .inl rfl, sign_pos h0⟩
    have hws := Go.IntWalk.i64_in s (by omega)
    have hwt := Go.IntWalk.i64_in (t : Int) (by omega)
    have hwt1 := Go.IntWalk.i64_in ((t : Int) + 1) (by omega)
    rw [hx] at hc
    have hStep := hid (dwI_step (s := s) hlt hS.out hzn (hlv.out _ (nth_inn hlt)) hat (by rw [hx]; exact hsg))
    have hLen := dwI_len (s := s) hS.out hzn (hlv.out _ (nth_inn hlt)) hat (by rw [hx]; exact hsg)
    have hSw := hid (hS.out.swap (i := t) htn)
    have hsz4 := sum_bd4 hS.out (k := t) (by omega)
    have ha1 := hS.out t (by omega)
    have ha2 := hS.out (t + 1) htn
    have hzO := hid hb.out.size
    have hi2 := hown.reads.idx (P := Try.prog) 32 sliceI sizeI .i64 (t : Int) (by omega) (by simp; omega)
    have hi3 := hown.reads.idx (P := Try.prog) 32 sliceI sizeI .i64 ((t : Int) + 1) (by omega) (by simp; omega)
    rw [Int.toNat_natCast] at hi2
    rw [show ((t : Int) + 1).toNat = t + 1 by omega] at hi3
    have hsl := hown.reads.upto_run (P := Try.prog) (T := 32) sliceI sizeI .i64 (t : Int) (by omega) (by rw [length_ints]; omega)
    rw [Int.toNat_natCast] at hsl
    have hru := hown.reads.upto t (by rw [length_ints]; omega)
    have eu : (ints zz).take t = ints (zz.take t) := by simp [ints, List.map_take]
    rw [eu] at hru
    have hd := hown.reads.cell t _ (ints_at (by omega))
    have hd2 := hown.reads.cell (t + 1) _ (ints_at htn)
    have hbD := hid (Below.refl wr.heap.size wr).drew
    have hSum := hid (by have := sum_impl (upto p t) (zz.take t) wr.drew (hru.below hbD.out) (hS.out.take t) (by rw [List.length_take]; omega); rw [sumF_take (by omega)] at this; exact this)
    have hC := hid (fun w' => block_implI (sumTo (fun i => nth zz i) t) (nth zz t) (nth zz (t + 1)) s w' hs1 (by omega) (by omega) (by omega) (by omega) (by omega) (by omega))
    have hSx := hid (fun (w' : World) (hw : Own w' (w1.heap.size + 1) 2 p (ints zz)) => (⟨hw.reads.cell t _ (ints_at (by omega)), hw.reads.cell (t + 1) _ (ints_at htn)⟩ : w'.cell? (adr p t) = some (.int .i64 (nth zz t)) ∧ w'.cell? (adr p (t + 1)) = some (.int .i64 (nth zz (t + 1)))))
    have X1 := hX.cell 1 rfl
    have F1 := hX.frozen 1
    generalize hBL : (bl (sumTo (fun i => nth zz i) t).toNat (nth zz t).toNat (nth zz (t + 1)).toNat).map (s * ·) = BL at *
    clear hBL
    generalize sumTo (fun i => nth zz i) t = R at *
    replace hx := hid hx
    replace hat := hid hat
    replace hsg := hid hsg
    replace hs1 := hid hs1
    replace hxb := hid hxb
    clear x0 x1 hru eu
    replace hR := hid hR
    replace hX := hid hX
    have hSD : wr.drew.cell? (adr p t) = some (.int .i64 (nth zz t)) ∧ wr.drew.cell? (adr p (t + 1)) = some (.int .i64 (nth zz (t + 1))) := ⟨hd, hd2⟩
    go_wp2_with (go_at_call 86; refine (hA.out _).mono ?_; rintro e w5 ⟨rfl, rfl⟩)
    refine wp_region_noPanic ?_
    refine wp_region_held_drew (S := fun w' => w'.cell? (adr p t) = some (.int .i64 (nth zz t)) ∧ w'.cell? (adr p (t + 1)) = some (.int .i64 (nth zz (t + 1)))) (by kernel_rfl) ?_ (fun hHeld => ?_)
    focus (first | assumption | exact ⟨by assumption, by assumption⟩)
    refine wpAnyH_take (i := 0) (v := ?_) rfl (by kernel_rfl) (by kernel_rfl) (by kernel_rfl) (fun _ _ _ h => h) (Or.inl ⟨by kernel_rfl, ?_⟩) (by assumption) ?_; rotate_left; (focus ((intro w hSw; (try dsimp only at hSw); go_simp) <;> with_reducible rfl)); (try dsimp [Act.put]); (try simp only [List.setIfInBounds_toArray, List.set_cons_zero, List.set_cons_succ])
    refine wpAnyH_take (i := 2) (v := ?_) rfl (by kernel_rfl) (by kernel_rfl) (by kernel_rfl) (fun _ _ _ h => h) (Or.inl ⟨by kernel_rfl, ?_⟩) (by assumption) ?_; rotate_left; (focus ((intro w hSw; (try dsimp only at hSw); go_simp) <;> with_reducible rfl)); (try dsimp [Act.put]); (try simp only [List.setIfInBounds_toArray, List.set_cons_zero, List.set_cons_succ])
    refine wpAnyH_take (i := 3) (v := ?_) rfl (by kernel_rfl) (by kernel_rfl) (by kernel_rfl) (fun _ _ _ h => h) (Or.inl ⟨by kernel_rfl, ?_⟩) (by assumption) ?_; rotate_left; (focus ((intro w hSw; (try dsimp only at hSw); go_simp) <;> with_reducible rfl)); (try dsimp [Act.put]); (try simp only [List.setIfInBounds_toArray, List.set_cons_zero, List.set_cons_succ])
    refine wpAnyH_take (i := 4) (v := ?_) rfl (by kernel_rfl) (by kernel_rfl) (by kernel_rfl) (fun _ _ _ h => h) (Or.inl ⟨by kernel_rfl, ?_⟩) (by assumption) ?_; rotate_left; (focus ((intro w hSw; (try dsimp only at hSw); go_simp) <;> with_reducible rfl)); (try dsimp [Act.put]); (try simp only [List.setIfInBounds_toArray, List.set_cons_zero, List.set_cons_succ])
    refine wpAnyH_take (i := 6) (v := ?_) rfl (by kernel_rfl) (by kernel_rfl) (by kernel_rfl) (fun _ _ _ h => h) (Or.inl ⟨by kernel_rfl, ?_⟩) (by assumption) ?_; rotate_left; (focus ((intro w hSw; (try dsimp only at hSw); go_simp) <;> with_reducible rfl)); (try dsimp [Act.put]); (try simp only [List.setIfInBounds_toArray, List.set_cons_zero, List.set_cons_succ])
    refine wpAnyH_take (i := 7) (v := ?_) rfl (by kernel_rfl) (by kernel_rfl) (by kernel_rfl) (fun _ _ _ h => h) (Or.inl ⟨by kernel_rfl, ?_⟩) (by assumption) ?_; rotate_left; (focus ((intro w hSw; (try dsimp only at hSw); go_simp) <;> with_reducible rfl)); (try dsimp [Act.put]); (try simp only [List.setIfInBounds_toArray, List.set_cons_zero, List.set_cons_succ])
    refine wpAnyH_take (i := 8) (v := ?_) rfl (by kernel_rfl) (by kernel_rfl) (by kernel_rfl) (fun _ _ _ h => h) (Or.inl ⟨by kernel_rfl, ?_⟩) (by assumption) ?_; rotate_left; (focus ((intro w hSw; (try dsimp only at hSw); go_simp) <;> with_reducible rfl)); (try dsimp [Act.put]); (try simp only [List.setIfInBounds_toArray, List.set_cons_zero, List.set_cons_succ])
    refine wpAnyH_take (i := 9) (v := ?_) rfl (by kernel_rfl) (by kernel_rfl) (by kernel_rfl) (fun _ _ _ h => h) (Or.inl ⟨by kernel_rfl, ?_⟩) (by assumption) ?_; rotate_left; (focus ((intro w hSw; (try dsimp only at hSw); go_simp) <;> with_reducible rfl)); (try dsimp [Act.put]); (try simp only [List.setIfInBounds_toArray, List.set_cons_zero, List.set_cons_succ])
    refine wpAnyH_take (i := 10) (v := ?_) rfl (by kernel_rfl) (by kernel_rfl) (by kernel_rfl) (fun _ _ _ h => h) (Or.inl ⟨by kernel_rfl, ?_⟩) (by assumption) ?_; rotate_left; (focus ((intro w hSw; (try dsimp only at hSw); go_simp) <;> with_reducible rfl)); (try dsimp [Act.put]); (try simp only [List.setIfInBounds_toArray, List.set_cons_zero, List.set_cons_succ])
    refine wpAnyH_take (i := 11) (v := ?_) rfl (by kernel_rfl) (by kernel_rfl) (by kernel_rfl) (fun _ _ _ h => h) (Or.inl ⟨by kernel_rfl, ?_⟩) (by assumption) ?_; rotate_left; (focus ((intro w hSw; (try dsimp only at hSw); go_simp) <;> with_reducible rfl)); (try dsimp [Act.put]); (try simp only [List.setIfInBounds_toArray, List.set_cons_zero, List.set_cons_succ])
    refine wpAnyH_take (i := 12) (v := ?_) rfl (by kernel_rfl) (by kernel_rfl) (by kernel_rfl) (fun _ _ _ h => h) (Or.inl ⟨by kernel_rfl, ?_⟩) (by assumption) ?_; rotate_left; (focus ((intro w hSw; (try dsimp only at hSw); go_simp) <;> with_reducible rfl)); (try dsimp [Act.put]); (try simp only [List.setIfInBounds_toArray, List.set_cons_zero, List.set_cons_succ])
    refine wpAnyH_take (i := 13) (v := ?_) rfl (by kernel_rfl) (by kernel_rfl) (by kernel_rfl) (fun _ _ _ h => h) (Or.inl ⟨by kernel_rfl, ?_⟩) (by assumption) ?_; rotate_left; (focus ((intro w hSw; (try dsimp only at hSw); go_simp) <;> with_reducible rfl)); (try dsimp [Act.put]); (try simp only [List.setIfInBounds_toArray, List.set_cons_zero, List.set_cons_succ])
    refine wpAnyH_take (i := 14) (v := ?_) rfl (by kernel_rfl) (by kernel_rfl) (by kernel_rfl) (fun _ _ _ h => h) (Or.inl ⟨by kernel_rfl, ?_⟩) (by assumption) ?_; rotate_left; (focus ((intro w hSw; (try dsimp only at hSw); go_simp) <;> with_reducible rfl)); (try dsimp [Act.put]); (try simp only [List.setIfInBounds_toArray, List.set_cons_zero, List.set_cons_succ])
    refine wpAnyH_take (i := 15) (v := ?_) rfl (by kernel_rfl) (by kernel_rfl) (by kernel_rfl) (fun _ _ _ h => h) (Or.inl ⟨by kernel_rfl, ?_⟩) (by assumption) ?_; rotate_left; (focus ((intro w hSw; (try dsimp only at hSw); go_simp) <;> with_reducible rfl)); (try dsimp [Act.put]); (try simp only [List.setIfInBounds_toArray, List.set_cons_zero, List.set_cons_succ])
    refine wpAnyH_take (i := 16) (v := ?_) rfl (by kernel_rfl) (by kernel_rfl) (by kernel_rfl) (fun _ _ _ h => h) (Or.inl ⟨by kernel_rfl, ?_⟩) (by assumption) ?_; rotate_left; (focus ((intro w hSw; (try dsimp only at hSw); go_simp) <;> with_reducible rfl)); (try dsimp [Act.put]); (try simp only [List.setIfInBounds_toArray, List.set_cons_zero, List.set_cons_succ])
    refine wpAnyH_ready (rs := [1, 5]) (by kernel_rfl) (by simp) ?_
    refine AllReadyH.cons rfl (fun KK hKK => ?_) ?_
    · go_simp
      refine hKK.out _ _ ?_ (fun hHeld => ?_)
      focus (first | assumption | exact ⟨by assumption, by assumption⟩)
      clear hKK KK
      (try dsimp [Act.put]); (try simp only [List.setIfInBounds_toArray, List.set_cons_zero, List.set_cons_succ])
      refine wpAnyH_ready (rs := [5]) (by kernel_rfl) (by simp) ?_
      refine AllReadyH.cons (o := { dst := some 45, op := .call { callee := .value (.func 95), args := #[.tmp 44], argTypes := #[32] }, type := _, pos := _, after := _, guard := _ }) rfl (fun KK hKK => ?_) AllReadyH.nil
      refine step_call hSum.out (fun _ => by kernel_rfl) rfl (.tmp 44) rfl (by simp [Act.eval]) ?_
      rintro e w5 ⟨rfl, rfl⟩
      refine ⟨_, rfl, ?_⟩
      refine hKK.out _ _ ?_ (fun hHeld => ?_)
      focus (first | assumption | exact ⟨by assumption, by assumption⟩)
      clear hKK KK
      (try dsimp [Act.put]); (try simp only [List.setIfInBounds_toArray, List.set_cons_zero, List.set_cons_succ])
      refine wpAnyH_ready (rs := [17]) (by kernel_rfl) (by simp) ?_
      refine AllReadyH.cons (o := { dst := some 57, op := .call { callee := .value (.func 86), args := #[.tmp 56], argTypes := #[2] }, type := _, pos := _, after := _, guard := _ }) rfl (fun KK hKK => ?_) AllReadyH.nil
      refine step_call (hA.out _) (fun _ => by kernel_rfl) rfl (.tmp 56) rfl (by simp [Act.eval]) ?_
      rintro e w5 ⟨rfl, rfl⟩
      refine ⟨_, rfl, ?_⟩
      refine hKK.out _ _ ?_ (fun hHeld => ?_)
      focus (first | assumption | exact ⟨by assumption, by assumption⟩)
      clear hKK KK
      (try dsimp [Act.put]); (try simp only [List.setIfInBounds_toArray, List.set_cons_zero, List.set_cons_succ])
      refine wpAnyH_take (i := 18) (v := ?_) rfl (by kernel_rfl) (by kernel_rfl) (by kernel_rfl) (fun _ _ _ h => h) (Or.inl ⟨by kernel_rfl, ?_⟩) (by assumption) ?_; rotate_left; (focus ((intro w hSw; (try dsimp only at hSw); go_simp) <;> with_reducible rfl)); (try dsimp [Act.put]); (try simp only [List.setIfInBounds_toArray, List.set_cons_zero, List.set_cons_succ])
      refine wpAnyH_ready (rs := [19]) (by kernel_rfl) (by simp) ?_
      refine AllReadyH.cons (o := { dst := some 59, op := .call { callee := .value (.func 97), args := #[.tmp 45, .tmp 49, .tmp 54, .tmp 58], argTypes := #[2, 2, 2, 2] }, type := _, pos := _, after := _, guard := _ }) rfl (fun KK hKK => ?_) AllReadyH.nil
      refine step_call4 (hC.out _) (fun _ => by kernel_rfl) rfl (.tmp 45) (.tmp 49) (.tmp 54) (.tmp 58) rfl (by simp [Act.eval]) (by simp [Act.eval]) (by simp [Act.eval]) (by simp [Act.eval]) ?_
      rintro e w6 ⟨p6, rfl, hp6, hs6⟩
      refine ⟨_, rfl, ?_⟩
      have hs6' := hid (hbD.out.trans hs6)
      have hX6 := hX.out.below hs6'.out
      have X61 := hX6.cell 1 rfl
      obtain ⟨q, w7, hrun, hq7, hg7⟩ := app_run (ty := 32) sliceI infoI rfl (ho.below hs6'.out) hp6.reads (oneCell_ints _) (Nat.le_trans hzw.out hs6'.out.size) (by simp; omega) (by decide)
      obtain ⟨qa, qn, qc, rfl⟩ := hq7.form3
      have hX7 := hX6.grown hg7 (ho.blk_ne hz3)
      have X71 := hX7.cell 1 rfl
      have F71 := hX7.frozen 1
      have hp7 := (hown.below hs6'.out).keep (w' := w7) fun g hg hgl => hg7.block g hgl (fun e => by have h1 := (ho.blk_lt e.symm).1; have h2 := (hpb.out g hg).2; omega)
      have hwF := hp7.other (a := ⟨w1.heap.size, 1, none⟩) (fun e => by have h2 := (hpb.out _ e).1; simp at h2; omega) (.slice qa qn qc)
      have hS6 := hSx.out w6 (hown.below hs6'.out)
      have hS7 := hSx.out w7 hp7
      have hS8 := hSx.out _ hwF
      replace hs6 := hid hs6
      replace hp6 := hid hp6
      replace hq7 := hid hq7
      replace hg7 := hid hg7
      replace hp7 := hid hp7
      replace hwF := hid hwF
      replace hX6 := hid hX6
      replace hX7 := hid hX7
      refine hKK.out _ _ ?_ (fun hHeld => ?_)
      focus (first | assumption | exact ⟨by assumption, by assumption⟩)
      clear hKK KK
      (try dsimp [Act.put]); (try simp only [List.setIfInBounds_toArray, List.set_cons_zero, List.set_cons_succ])
      refine wpAnyH_ready (rs := [20]) (by kernel_rfl) (by simp) ?_
      refine AllReadyH.cons (o := { dst := some 60, op := .call { callee := .builtin .append, args := #[.tmp 41, .tmp 59], argTypes := #[32, 32] }, type := _, pos := _, after := _, guard := _ }) rfl (fun KK hKK => ?_) AllReadyH.nil
      refine step_app hrun rfl (.tmp 41) (.tmp 59) rfl (by simp [Act.eval]) (by simp [Act.eval]) ?_
      refine hKK.out _ _ ?_ (fun hHeld => ?_)
      focus (first | assumption | exact ⟨by assumption, by assumption⟩)
      clear hKK KK
      (try dsimp [Act.put]); (try simp only [List.setIfInBounds_toArray, List.set_cons_zero, List.set_cons_succ])
      refine wpAnyH_take (i := 21) (v := ?_) rfl (by kernel_rfl) (by kernel_rfl) (by kernel_rfl) (fun _ _ _ h => h) (Or.inl ⟨by kernel_rfl, ?_⟩) (by assumption) ?_; rotate_left; (focus ((intro w hSw; (try dsimp only at hSw); go_simp) <;> with_reducible rfl)); (try dsimp [Act.put]); (try simp only [List.setIfInBounds_toArray, List.set_cons_zero, List.set_cons_succ])
      refine wpAnyH_ready (rs := [22]) (by kernel_rfl) (by simp) ?_
      refine AllReadyH.cons rfl (fun KK hKK => ?_) AllReadyH.nil
      go_simp
      refine hKK.out _ _ ?_ (fun hHeld => ?_)
      focus (first | assumption | exact ⟨by assumption, by assumption⟩)
      clear hKK KK
      (try dsimp [Act.put]); (try simp only [List.setIfInBounds_toArray, List.set_cons_zero, List.set_cons_succ])
      refine wpAnyH_done (by kernel_rfl) ?_ _
      refine NoPanic.normal ?_
      have hbX := hid (((hb.out.trans (hs6'.out.mono hzO.out)).grown hg7.out (Nat.le_trans hzO.out hs6'.out.size) (fun j hj => by have h1 := (ho.blk_lt hj).1; omega)).setCell (p := ⟨w1.heap.size, 1, none⟩) (by show w.heap.size ≤ w1.heap.size; omega) (.slice qa qn qc))
      have hX8 := hX7.out.set 1 (.slice qa qn qc)
      have hR8 := ((hR.out.below hs6'.out).grown hg7.out (ho.blk_ne (by omega))).other (a := ⟨w1.heap.size, 1, none⟩) (by show w1.heap.size ≠ w.heap.size + 1; omega) (.slice qa qn qc)
      have hq8 := hq7.out.set_block (g := w1.heap.size) (by omega) 1 (.slice qa qn qc)
      have hp8 := hwF.out
      have hz8 : w3.heap.size ≤ (w7.setCell ⟨w1.heap.size, 1, none⟩ (.slice qa qn qc)).heap.size := by have h1 := hzw.out; have h2 := hs6'.out.size; have h3 := hg7.out.size; simp only [World.setCell, Array.size_modify]; omega
      clear hS6 hS7 hS8 hHeld X61 X71 F71 hd hd2 hSD X1 F1 hrun
      clear hs6 hp6 hq7 hg7 hp7 hwF hX6 hX7 hs6' hX hR hb ho hown hzw
      generalize (w7.setCell ⟨w1.heap.size, 1, none⟩ (.slice qa qn qc)) = wF at *
      have d7 := hp8.reads.cell t _ (ints_at (by omega))
      have d8 := hp8.reads.cell (t + 1) _ (ints_at (by omega))
      have hf := hp8.frozen (i := t) (by simp; omega)
      have hf2 := hp8.frozen (i := t + 1) (by simp; omega)
      have hab := hp8.adr_blk (i := t) (by simp; omega)
      have hab2 := hp8.adr_blk (i := t + 1) (by simp; omega)
      have hne := hp8.adr_ne (i := t) (j := t + 1) (by simp; omega) (by omega)
      have hne2 := hp8.adr_ne (i := t + 1) (j := t) (by simp; omega) (by omega)
      have hst := ((hp8.set (i := t) (by simp; omega) (.int .i64 (nth zz (t + 1)))).set (i := t + 1) (by simp; omega) (.int .i64 (nth zz t))).drew
      rw [ints_set, ints_set] at hst
      have hst2 := hid (show Own _ (w1.heap.size + 1) 2 p (ints (swapAt zz t)) from hst)
      have hq9 := hid ((hq8.other (a := adr p t) (fun e => by have h1 := (hq8.blk_lt e).1; have h2 := (hpb.out _ hab.1).2; omega) (.int .i64 (nth zz (t + 1)))).other (a := adr p (t + 1)) (fun e => by have h1 := (hq8.blk_lt e).1; have h2 := (hpb.out _ hab2.1).2; omega) (.int .i64 (nth zz t))).drew
      have hX9 := hid (((hX8.other (a := adr p t) (by have := hab.2.1; omega) (.int .i64 (nth zz (t + 1)))).other (a := adr p (t + 1)) (by have := hab2.2.1; omega) (.int .i64 (nth zz t))).drew)
      have hR9 := hid (((hR8.other (a := adr p t) (by have := hab.2.1; omega) (.int .i64 (nth zz (t + 1)))).other (a := adr p (t + 1)) (by have := hab2.2.1; omega) (.int .i64 (nth zz t))).drew)
      have hbF := hid (((hbX.out.setCell (p := adr p t) (by have := hab.2.1; omega) (.int .i64 (nth zz (t + 1)))).setCell (p := adr p (t + 1)) (by have := hab2.2.1; omega) (.int .i64 (nth zz t))).drew)
      have hzF := hid (show w3.heap.size ≤ (((wF.setCell (adr p t) (.int .i64 (nth zz (t + 1)))).setCell (adr p (t + 1)) (.int .i64 (nth zz t))).drew).heap.size from by simp only [World.drew, World.setCell, Array.size_modify]; exact hz8)
      have hEF := hid (show (d ++ BL) ++ dwI (l.drop (k + 1)) (swapAt zz t) = dwI l z by rw [List.append_assoc, ← hStep.out]; exact hE.out)
      have hin := hid (show ints (d ++ BL) = ints d ++ ints BL by simp [ints])
      have hlF : (swapAt zz t).length = z.length := by rw [length_swapAt]; exact hzn
      clear hst hab hab2 hp8 hq8 hX8 hR8 hbX hz8 hSum
      go_wp2_with fail
      go_region
      go_wp2_with fail
      go_roundw
      case rel => exact ⟨k + 1, swapAt zz t, d ++ BL, .slice qa qn qc, by omega, by go_num, hSw, hlF, hEF, by rw [List.length_append]; omega, hR9.out, hX9.out, by rw [hin.out]; exact hq9.out, hst2.out, hbF, hzF⟩
      case measure => simp [intOf] <;> omega
    refine AllReadyH.cons (o := { dst := some 45, op := .call { callee := .value (.func 95), args := #[.tmp 44], argTypes := #[32] }, type := _, pos := _, after := _, guard := _ }) rfl (fun KK hKK => ?_) AllReadyH.nil
    refine step_call hSum.out (fun _ => by kernel_rfl) rfl (.tmp 44) rfl (by simp [Act.eval]) ?_
    rintro e w5 ⟨rfl, rfl⟩
    refine ⟨_, rfl, ?_⟩
    refine hKK.out _ _ ?_ (fun hHeld => ?_)
    focus (first | assumption | exact ⟨by assumption, by assumption⟩)
    clear hKK KK
    (try dsimp [Act.put]); (try simp only [List.setIfInBounds_toArray, List.set_cons_zero, List.set_cons_succ])
    refine wpAnyH_ready (rs := [1, 17]) (by kernel_rfl) (by simp) ?_
    refine AllReadyH.cons rfl (fun KK hKK => ?_) ?_
    · go_simp
      refine hKK.out _ _ ?_ (fun hHeld => ?_)
      focus (first | assumption | exact ⟨by assumption, by assumption⟩)
      clear hKK KK
      (try dsimp [Act.put]); (try simp only [List.setIfInBounds_toArray, List.set_cons_zero, List.set_cons_succ])
      refine wpAnyH_ready (rs := [17]) (by kernel_rfl) (by simp) ?_
      refine AllReadyH.cons (o := { dst := some 57, op := .call { callee := .value (.func 86), args := #[.tmp 56], argTypes := #[2] }, type := _, pos := _, after := _, guard := _ }) rfl (fun KK hKK => ?_) AllReadyH.nil
      refine step_call (hA.out _) (fun _ => by kernel_rfl) rfl (.tmp 56) rfl (by simp [Act.eval]) ?_
      rintro e w5 ⟨rfl, rfl⟩
      refine ⟨_, rfl, ?_⟩
      refine hKK.out _ _ ?_ (fun hHeld => ?_)
      focus (first | assumption | exact ⟨by assumption, by assumption⟩)
      clear hKK KK
      (try dsimp [Act.put]); (try simp only [List.setIfInBounds_toArray, List.set_cons_zero, List.set_cons_succ])
      refine wpAnyH_take (i := 18) (v := ?_) rfl (by kernel_rfl) (by kernel_rfl) (by kernel_rfl) (fun _ _ _ h => h) (Or.inl ⟨by kernel_rfl, ?_⟩) (by assumption) ?_; rotate_left; (focus ((intro w hSw; (try dsimp only at hSw); go_simp) <;> with_reducible rfl)); (try dsimp [Act.put]); (try simp only [List.setIfInBounds_toArray, List.set_cons_zero, List.set_cons_succ])
      refine wpAnyH_ready (rs := [19]) (by kernel_rfl) (by simp) ?_
      refine AllReadyH.cons (o := { dst := some 59, op := .call { callee := .value (.func 97), args := #[.tmp 45, .tmp 49, .tmp 54, .tmp 58], argTypes := #[2, 2, 2, 2] }, type := _, pos := _, after := _, guard := _ }) rfl (fun KK hKK => ?_) AllReadyH.nil
      refine step_call4 (hC.out _) (fun _ => by kernel_rfl) rfl (.tmp 45) (.tmp 49) (.tmp 54) (.tmp 58) rfl (by simp [Act.eval]) (by simp [Act.eval]) (by simp [Act.eval]) (by simp [Act.eval]) ?_
      rintro e w6 ⟨p6, rfl, hp6, hs6⟩
      refine ⟨_, rfl, ?_⟩
      have hs6' := hid (hbD.out.trans hs6)
      have hX6 := hX.out.below hs6'.out
      have X61 := hX6.cell 1 rfl
      obtain ⟨q, w7, hrun, hq7, hg7⟩ := app_run (ty := 32) sliceI infoI rfl (ho.below hs6'.out) hp6.reads (oneCell_ints _) (Nat.le_trans hzw.out hs6'.out.size) (by simp; omega) (by decide)
      obtain ⟨qa, qn, qc, rfl⟩ := hq7.form3
      have hX7 := hX6.grown hg7 (ho.blk_ne hz3)
      have X71 := hX7.cell 1 rfl
      have F71 := hX7.frozen 1
      have hp7 := (hown.below hs6'.out).keep (w' := w7) fun g hg hgl => hg7.block g hgl (fun e => by have h1 := (ho.blk_lt e.symm).1; have h2 := (hpb.out g hg).2; omega)
      have hwF := hp7.other (a := ⟨w1.heap.size, 1, none⟩) (fun e => by have h2 := (hpb.out _ e).1; simp at h2; omega) (.slice qa qn qc)
      have hS6 := hSx.out w6 (hown.below hs6'.out)
      have hS7 := hSx.out w7 hp7
      have hS8 := hSx.out _ hwF
      replace hs6 := hid hs6
      replace hp6 := hid hp6
      replace hq7 := hid hq7
      replace hg7 := hid hg7
      replace hp7 := hid hp7
      replace hwF := hid hwF
      replace hX6 := hid hX6
      replace hX7 := hid hX7
      refine hKK.out _ _ ?_ (fun hHeld => ?_)
      focus (first | assumption | exact ⟨by assumption, by assumption⟩)
      clear hKK KK
      (try dsimp [Act.put]); (try simp only [List.setIfInBounds_toArray, List.set_cons_zero, List.set_cons_succ])
      refine wpAnyH_ready (rs := [20]) (by kernel_rfl) (by simp) ?_
      refine AllReadyH.cons (o := { dst := some 60, op := .call { callee := .builtin .append, args := #[.tmp 41, .tmp 59], argTypes := #[32, 32] }, type := _, pos := _, after := _, guard := _ }) rfl (fun KK hKK => ?_) AllReadyH.nil
      refine step_app hrun rfl (.tmp 41) (.tmp 59) rfl (by simp [Act.eval]) (by simp [Act.eval]) ?_
      refine hKK.out _ _ ?_ (fun hHeld => ?_)
      focus (first | assumption | exact ⟨by assumption, by assumption⟩)
      clear hKK KK
      (try dsimp [Act.put]); (try simp only [List.setIfInBounds_toArray, List.set_cons_zero, List.set_cons_succ])
      refine wpAnyH_take (i := 21) (v := ?_) rfl (by kernel_rfl) (by kernel_rfl) (by kernel_rfl) (fun _ _ _ h => h) (Or.inl ⟨by kernel_rfl, ?_⟩) (by assumption) ?_; rotate_left; (focus ((intro w hSw; (try dsimp only at hSw); go_simp) <;> with_reducible rfl)); (try dsimp [Act.put]); (try simp only [List.setIfInBounds_toArray, List.set_cons_zero, List.set_cons_succ])
      refine wpAnyH_ready (rs := [22]) (by kernel_rfl) (by simp) ?_
      refine AllReadyH.cons rfl (fun KK hKK => ?_) AllReadyH.nil
      go_simp
      refine hKK.out _ _ ?_ (fun hHeld => ?_)
      focus (first | assumption | exact ⟨by assumption, by assumption⟩)
      clear hKK KK
      (try dsimp [Act.put]); (try simp only [List.setIfInBounds_toArray, List.set_cons_zero, List.set_cons_succ])
      refine wpAnyH_done (by kernel_rfl) ?_ _
      refine NoPanic.normal ?_
      have hbX := hid (((hb.out.trans (hs6'.out.mono hzO.out)).grown hg7.out (Nat.le_trans hzO.out hs6'.out.size) (fun j hj => by have h1 := (ho.blk_lt hj).1; omega)).setCell (p := ⟨w1.heap.size, 1, none⟩) (by show w.heap.size ≤ w1.heap.size; omega) (.slice qa qn qc))
      have hX8 := hX7.out.set 1 (.slice qa qn qc)
      have hR8 := ((hR.out.below hs6'.out).grown hg7.out (ho.blk_ne (by omega))).other (a := ⟨w1.heap.size, 1, none⟩) (by show w1.heap.size ≠ w.heap.size + 1; omega) (.slice qa qn qc)
      have hq8 := hq7.out.set_block (g := w1.heap.size) (by omega) 1 (.slice qa qn qc)
      have hp8 := hwF.out
      have hz8 : w3.heap.size ≤ (w7.setCell ⟨w1.heap.size, 1, none⟩ (.slice qa qn qc)).heap.size := by have h1 := hzw.out; have h2 := hs6'.out.size; have h3 := hg7.out.size; simp only [World.setCell, Array.size_modify]; omega
      clear hS6 hS7 hS8 hHeld X61 X71 F71 hd hd2 hSD X1 F1 hrun
      clear hs6 hp6 hq7 hg7 hp7 hwF hX6 hX7 hs6' hX hR hb ho hown hzw
      generalize (w7.setCell ⟨w1.heap.size, 1, none⟩ (.slice qa qn qc)) = wF at *
      have d7 := hp8.reads.cell t _ (ints_at (by omega))
      have d8 := hp8.reads.cell (t + 1) _ (ints_at (by omega))
      have hf := hp8.frozen (i := t) (by simp; omega)
      have hf2 := hp8.frozen (i := t + 1) (by simp; omega)
      have hab := hp8.adr_blk (i := t) (by simp; omega)
      have hab2 := hp8.adr_blk (i := t + 1) (by simp; omega)
      have hne := hp8.adr_ne (i := t) (j := t + 1) (by simp; omega) (by omega)
      have hne2 := hp8.adr_ne (i := t + 1) (j := t) (by simp; omega) (by omega)
      have hst := ((hp8.set (i := t) (by simp; omega) (.int .i64 (nth zz (t + 1)))).set (i := t + 1) (by simp; omega) (.int .i64 (nth zz t))).drew
      rw [ints_set, ints_set] at hst
      have hst2 := hid (show Own _ (w1.heap.size + 1) 2 p (ints (swapAt zz t)) from hst)
      have hq9 := hid ((hq8.other (a := adr p t) (fun e => by have h1 := (hq8.blk_lt e).1; have h2 := (hpb.out _ hab.1).2; omega) (.int .i64 (nth zz (t + 1)))).other (a := adr p (t + 1)) (fun e => by have h1 := (hq8.blk_lt e).1; have h2 := (hpb.out _ hab2.1).2; omega) (.int .i64 (nth zz t))).drew
      have hX9 := hid (((hX8.other (a := adr p t) (by have := hab.2.1; omega) (.int .i64 (nth zz (t + 1)))).other (a := adr p (t + 1)) (by have := hab2.2.1; omega) (.int .i64 (nth zz t))).drew)
      have hR9 := hid (((hR8.other (a := adr p t) (by have := hab.2.1; omega) (.int .i64 (nth zz (t + 1)))).other (a := adr p (t + 1)) (by have := hab2.2.1; omega) (.int .i64 (nth zz t))).drew)
      have hbF := hid (((hbX.out.setCell (p := adr p t) (by have := hab.2.1; omega) (.int .i64 (nth zz (t + 1)))).setCell (p := adr p (t + 1)) (by have := hab2.2.1; omega) (.int .i64 (nth zz t))).drew)
      have hzF := hid (show w3.heap.size ≤ (((wF.setCell (adr p t) (.int .i64 (nth zz (t + 1)))).setCell (adr p (t + 1)) (.int .i64 (nth zz t))).drew).heap.size from by simp only [World.drew, World.setCell, Array.size_modify]; exact hz8)
      have hEF := hid (show (d ++ BL) ++ dwI (l.drop (k + 1)) (swapAt zz t) = dwI l z by rw [List.append_assoc, ← hStep.out]; exact hE.out)
      have hin := hid (show ints (d ++ BL) = ints d ++ ints BL by simp [ints])
      have hlF : (swapAt zz t).length = z.length := by rw [length_swapAt]; exact hzn
      clear hst hab hab2 hp8 hq8 hX8 hR8 hbX hz8 hSum
      go_wp2_with fail
      go_region
      go_wp2_with fail
      go_roundw
      case rel => exact ⟨k + 1, swapAt zz t, d ++ BL, .slice qa qn qc, by omega, by go_num, hSw, hlF, hEF, by rw [List.length_append]; omega, hR9.out, hX9.out, by rw [hin.out]; exact hq9.out, hst2.out, hbF, hzF⟩
      case measure => simp [intOf] <;> omega
    refine AllReadyH.cons (o := { dst := some 57, op := .call { callee := .value (.func 86), args := #[.tmp 56], argTypes := #[2] }, type := _, pos := _, after := _, guard := _ }) rfl (fun KK hKK => ?_) AllReadyH.nil
    refine step_call (hA.out _) (fun _ => by kernel_rfl) rfl (.tmp 56) rfl (by simp [Act.eval]) ?_
    rintro e w5 ⟨rfl, rfl⟩
    refine ⟨_, rfl, ?_⟩
    refine hKK.out _ _ ?_ (fun hHeld => ?_)
    focus (first | assumption | exact ⟨by assumption, by assumption⟩)
    clear hKK KK
    (try dsimp [Act.put]); (try simp only [List.setIfInBounds_toArray, List.set_cons_zero, List.set_cons_succ])
    refine wpAnyH_take (i := 18) (v := ?_) rfl (by kernel_rfl) (by kernel_rfl) (by kernel_rfl) (fun _ _ _ h => h) (Or.inl ⟨by kernel_rfl, ?_⟩) (by assumption) ?_; rotate_left; (focus ((intro w hSw; (try dsimp only at hSw); go_simp) <;> with_reducible rfl)); (try dsimp [Act.put]); (try simp only [List.setIfInBounds_toArray, List.set_cons_zero, List.set_cons_succ])
    refine wpAnyH_ready (rs := [1, 19]) (by kernel_rfl) (by simp) ?_
    refine AllReadyH.cons rfl (fun KK hKK => ?_) ?_
    · go_simp
      refine hKK.out _ _ ?_ (fun hHeld => ?_)
      focus (first | assumption | exact ⟨by assumption, by assumption⟩)
      clear hKK KK
      (try dsimp [Act.put]); (try simp only [List.setIfInBounds_toArray, List.set_cons_zero, List.set_cons_succ])
      refine wpAnyH_ready (rs := [19]) (by kernel_rfl) (by simp) ?_
      refine AllReadyH.cons (o := { dst := some 59, op := .call { callee := .value (.func 97), args := #[.tmp 45, .tmp 49, .tmp 54, .tmp 58], argTypes := #[2, 2, 2, 2] }, type := _, pos := _, after := _, guard := _ }) rfl (fun KK hKK => ?_) AllReadyH.nil
      refine step_call4 (hC.out _) (fun _ => by kernel_rfl) rfl (.tmp 45) (.tmp 49) (.tmp 54) (.tmp 58) rfl (by simp [Act.eval]) (by simp [Act.eval]) (by simp [Act.eval]) (by simp [Act.eval]) ?_
      rintro e w6 ⟨p6, rfl, hp6, hs6⟩
      refine ⟨_, rfl, ?_⟩
      have hs6' := hid (hbD.out.trans hs6)
      have hX6 := hX.out.below hs6'.out
      have X61 := hX6.cell 1 rfl
      obtain ⟨q, w7, hrun, hq7, hg7⟩ := app_run (ty := 32) sliceI infoI rfl (ho.below hs6'.out) hp6.reads (oneCell_ints _) (Nat.le_trans hzw.out hs6'.out.size) (by simp; omega) (by decide)
      obtain ⟨qa, qn, qc, rfl⟩ := hq7.form3
      have hX7 := hX6.grown hg7 (ho.blk_ne hz3)
      have X71 := hX7.cell 1 rfl
      have F71 := hX7.frozen 1
      have hp7 := (hown.below hs6'.out).keep (w' := w7) fun g hg hgl => hg7.block g hgl (fun e => by have h1 := (ho.blk_lt e.symm).1; have h2 := (hpb.out g hg).2; omega)
      have hwF := hp7.other (a := ⟨w1.heap.size, 1, none⟩) (fun e => by have h2 := (hpb.out _ e).1; simp at h2; omega) (.slice qa qn qc)
      have hS6 := hSx.out w6 (hown.below hs6'.out)
      have hS7 := hSx.out w7 hp7
      have hS8 := hSx.out _ hwF
      replace hs6 := hid hs6
      replace hp6 := hid hp6
      replace hq7 := hid hq7
      replace hg7 := hid hg7
      replace hp7 := hid hp7
      replace hwF := hid hwF
      replace hX6 := hid hX6
      replace hX7 := hid hX7
      refine hKK.out _ _ ?_ (fun hHeld => ?_)
      focus (first | assumption | exact ⟨by assumption, by assumption⟩)
      clear hKK KK
      (try dsimp [Act.put]); (try simp only [List.setIfInBounds_toArray, List.set_cons_zero, List.set_cons_succ])
      refine wpAnyH_ready (rs := [20]) (by kernel_rfl) (by simp) ?_
      refine AllReadyH.cons (o := { dst := some 60, op := .call { callee := .builtin .append, args := #[.tmp 41, .tmp 59], argTypes := #[32, 32] }, type := _, pos := _, after := _, guard := _ }) rfl (fun KK hKK => ?_) AllReadyH.nil
      refine step_app hrun rfl (.tmp 41) (.tmp 59) rfl (by simp [Act.eval]) (by simp [Act.eval]) ?_
      refine hKK.out _ _ ?_ (fun hHeld => ?_)
      focus (first | assumption | exact ⟨by assumption, by assumption⟩)
      clear hKK KK
      (try dsimp [Act.put]); (try simp only [List.setIfInBounds_toArray, List.set_cons_zero, List.set_cons_succ])
      refine wpAnyH_take (i := 21) (v := ?_) rfl (by kernel_rfl) (by kernel_rfl) (by kernel_rfl) (fun _ _ _ h => h) (Or.inl ⟨by kernel_rfl, ?_⟩) (by assumption) ?_; rotate_left; (focus ((intro w hSw; (try dsimp only at hSw); go_simp) <;> with_reducible rfl)); (try dsimp [Act.put]); (try simp only [List.setIfInBounds_toArray, List.set_cons_zero, List.set_cons_succ])
      refine wpAnyH_ready (rs := [22]) (by kernel_rfl) (by simp) ?_
      refine AllReadyH.cons rfl (fun KK hKK => ?_) AllReadyH.nil
      go_simp
      refine hKK.out _ _ ?_ (fun hHeld => ?_)
      focus (first | assumption | exact ⟨by assumption, by assumption⟩)
      clear hKK KK
      (try dsimp [Act.put]); (try simp only [List.setIfInBounds_toArray, List.set_cons_zero, List.set_cons_succ])
      refine wpAnyH_done (by kernel_rfl) ?_ _
      refine NoPanic.normal ?_
      have hbX := hid (((hb.out.trans (hs6'.out.mono hzO.out)).grown hg7.out (Nat.le_trans hzO.out hs6'.out.size) (fun j hj => by have h1 := (ho.blk_lt hj).1; omega)).setCell (p := ⟨w1.heap.size, 1, none⟩) (by show w.heap.size ≤ w1.heap.size; omega) (.slice qa qn qc))
      have hX8 := hX7.out.set 1 (.slice qa qn qc)
      have hR8 := ((hR.out.below hs6'.out).grown hg7.out (ho.blk_ne (by omega))).other (a := ⟨w1.heap.size, 1, none⟩) (by show w1.heap.size ≠ w.heap.size + 1; omega) (.slice qa qn qc)
      have hq8 := hq7.out.set_block (g := w1.heap.size) (by omega) 1 (.slice qa qn qc)
      have hp8 := hwF.out
      have hz8 : w3.heap.size ≤ (w7.setCell ⟨w1.heap.size, 1, none⟩ (.slice qa qn qc)).heap.size := by have h1 := hzw.out; have h2 := hs6'.out.size; have h3 := hg7.out.size; simp only [World.setCell, Array.size_modify]; omega
      clear hS6 hS7 hS8 hHeld X61 X71 F71 hd hd2 hSD X1 F1 hrun
      clear hs6 hp6 hq7 hg7 hp7 hwF hX6 hX7 hs6' hX hR hb ho hown hzw
      generalize (w7.setCell ⟨w1.heap.size, 1, none⟩ (.slice qa qn qc)) = wF at *
      have d7 := hp8.reads.cell t _ (ints_at (by omega))
      have d8 := hp8.reads.cell (t + 1) _ (ints_at (by omega))
      have hf := hp8.frozen (i := t) (by simp; omega)
      have hf2 := hp8.frozen (i := t + 1) (by simp; omega)
      have hab := hp8.adr_blk (i := t) (by simp; omega)
      have hab2 := hp8.adr_blk (i := t + 1) (by simp; omega)
      have hne := hp8.adr_ne (i := t) (j := t + 1) (by simp; omega) (by omega)
      have hne2 := hp8.adr_ne (i := t + 1) (j := t) (by simp; omega) (by omega)
      have hst := ((hp8.set (i := t) (by simp; omega) (.int .i64 (nth zz (t + 1)))).set (i := t + 1) (by simp; omega) (.int .i64 (nth zz t))).drew
      rw [ints_set, ints_set] at hst
      have hst2 := hid (show Own _ (w1.heap.size + 1) 2 p (ints (swapAt zz t)) from hst)
      have hq9 := hid ((hq8.other (a := adr p t) (fun e => by have h1 := (hq8.blk_lt e).1; have h2 := (hpb.out _ hab.1).2; omega) (.int .i64 (nth zz (t + 1)))).other (a := adr p (t + 1)) (fun e => by have h1 := (hq8.blk_lt e).1; have h2 := (hpb.out _ hab2.1).2; omega) (.int .i64 (nth zz t))).drew
      have hX9 := hid (((hX8.other (a := adr p t) (by have := hab.2.1; omega) (.int .i64 (nth zz (t + 1)))).other (a := adr p (t + 1)) (by have := hab2.2.1; omega) (.int .i64 (nth zz t))).drew)
      have hR9 := hid (((hR8.other (a := adr p t) (by have := hab.2.1; omega) (.int .i64 (nth zz (t + 1)))).other (a := adr p (t + 1)) (by have := hab2.2.1; omega) (.int .i64 (nth zz t))).drew)
      have hbF := hid (((hbX.out.setCell (p := adr p t) (by have := hab.2.1; omega) (.int .i64 (nth zz (t + 1)))).setCell (p := adr p (t + 1)) (by have := hab2.2.1; omega) (.int .i64 (nth zz t))).drew)
      have hzF := hid (show w3.heap.size ≤ (((wF.setCell (adr p t) (.int .i64 (nth zz (t + 1)))).setCell (adr p (t + 1)) (.int .i64 (nth zz t))).drew).heap.size from by simp only [World.drew, World.setCell, Array.size_modify]; exact hz8)
      have hEF := hid (show (d ++ BL) ++ dwI (l.drop (k + 1)) (swapAt zz t) = dwI l z by rw [List.append_assoc, ← hStep.out]; exact hE.out)
      have hin := hid (show ints (d ++ BL) = ints d ++ ints BL by simp [ints])
      have hlF : (swapAt zz t).length = z.length := by rw [length_swapAt]; exact hzn
      clear hst hab hab2 hp8 hq8 hX8 hR8 hbX hz8 hSum
      go_wp2_with fail
      go_region
      go_wp2_with fail
      go_roundw
      case rel => exact ⟨k + 1, swapAt zz t, d ++ BL, .slice qa qn qc, by omega, by go_num, hSw, hlF, hEF, by rw [List.length_append]; omega, hR9.out, hX9.out, by rw [hin.out]; exact hq9.out, hst2.out, hbF, hzF⟩
      case measure => simp [intOf] <;> omega
    refine AllReadyH.cons (o := { dst := some 59, op := .call { callee := .value (.func 97), args := #[.tmp 45, .tmp 49, .tmp 54, .tmp 58], argTypes := #[2, 2, 2, 2] }, type := _, pos := _, after := _, guard := _ }) rfl (fun KK hKK => ?_) AllReadyH.nil
    refine step_call4 (hC.out _) (fun _ => by kernel_rfl) rfl (.tmp 45) (.tmp 49) (.tmp 54) (.tmp 58) rfl (by simp [Act.eval]) (by simp [Act.eval]) (by simp [Act.eval]) (by simp [Act.eval]) ?_
    rintro e w6 ⟨p6, rfl, hp6, hs6⟩
    refine ⟨_, rfl, ?_⟩
    have hs6' := hid (hbD.out.trans hs6)
    have hX6 := hX.out.below hs6'.out
    have X61 := hX6.cell 1 rfl
    obtain ⟨q, w7, hrun, hq7, hg7⟩ := app_run (ty := 32) sliceI infoI rfl (ho.below hs6'.out) hp6.reads (oneCell_ints _) (Nat.le_trans hzw.out hs6'.out.size) (by simp; omega) (by decide)
    obtain ⟨qa, qn, qc, rfl⟩ := hq7.form3
    have hX7 := hX6.grown hg7 (ho.blk_ne hz3)
    have X71 := hX7.cell 1 rfl
    have F71 := hX7.frozen 1
    have hp7 := (hown.below hs6'.out).keep (w' := w7) fun g hg hgl => hg7.block g hgl (fun e => by have h1 := (ho.blk_lt e.symm).1; have h2 := (hpb.out g hg).2; omega)
    have hwF := hp7.other (a := ⟨w1.heap.size, 1, none⟩) (fun e => by have h2 := (hpb.out _ e).1; simp at h2; omega) (.slice qa qn qc)
    have hS6 := hSx.out w6 (hown.below hs6'.out)
    have hS7 := hSx.out w7 hp7
    have hS8 := hSx.out _ hwF
    replace hs6 := hid hs6
    replace hp6 := hid hp6
    replace hq7 := hid hq7
    replace hg7 := hid hg7
    replace hp7 := hid hp7
    replace hwF := hid hwF
    replace hX6 := hid hX6
    replace hX7 := hid hX7
    refine hKK.out _ _ ?_ (fun hHeld => ?_)
    focus (first | assumption | exact ⟨by assumption, by assumption⟩)
    clear hKK KK
    (try dsimp [Act.put]); (try simp only [List.setIfInBounds_toArray, List.set_cons_zero, List.set_cons_succ])
    refine wpAnyH_ready (rs := [1]) (by kernel_rfl) (by simp) ?_
    refine AllReadyH.cons rfl (fun KK hKK => ?_) AllReadyH.nil
    go_simp
    refine hKK.out _ _ ?_ (fun hHeld => ?_)
    focus (first | assumption | exact ⟨by assumption, by assumption⟩)
    clear hKK KK
    (try dsimp [Act.put]); (try simp only [List.setIfInBounds_toArray, List.set_cons_zero, List.set_cons_succ])
    refine wpAnyH_ready (rs := [20]) (by kernel_rfl) (by simp) ?_
    refine AllReadyH.cons (o := { dst := some 60, op := .call { callee := .builtin .append, args := #[.tmp 41, .tmp 59], argTypes := #[32, 32] }, type := _, pos := _, after := _, guard := _ }) rfl (fun KK hKK => ?_) AllReadyH.nil
    refine step_app hrun rfl (.tmp 41) (.tmp 59) rfl (by simp [Act.eval]) (by simp [Act.eval]) ?_
    refine hKK.out _ _ ?_ (fun hHeld => ?_)
    focus (first | assumption | exact ⟨by assumption, by assumption⟩)
    clear hKK KK
    (try dsimp [Act.put]); (try simp only [List.setIfInBounds_toArray, List.set_cons_zero, List.set_cons_succ])
    refine wpAnyH_take (i := 21) (v := ?_) rfl (by kernel_rfl) (by kernel_rfl) (by kernel_rfl) (fun _ _ _ h => h) (Or.inl ⟨by kernel_rfl, ?_⟩) (by assumption) ?_; rotate_left; (focus ((intro w hSw; (try dsimp only at hSw); go_simp) <;> with_reducible rfl)); (try dsimp [Act.put]); (try simp only [List.setIfInBounds_toArray, List.set_cons_zero, List.set_cons_succ])
    refine wpAnyH_ready (rs := [22]) (by kernel_rfl) (by simp) ?_
    refine AllReadyH.cons rfl (fun KK hKK => ?_) AllReadyH.nil
    go_simp
    refine hKK.out _ _ ?_ (fun hHeld => ?_)
    focus (first | assumption | exact ⟨by assumption, by assumption⟩)
    clear hKK KK
    (try dsimp [Act.put]); (try simp only [List.setIfInBounds_toArray, List.set_cons_zero, List.set_cons_succ])
    refine wpAnyH_done (by kernel_rfl) ?_ _
    refine NoPanic.normal ?_
    have hbX := hid (((hb.out.trans (hs6'.out.mono hzO.out)).grown hg7.out (Nat.le_trans hzO.out hs6'.out.size) (fun j hj => by have h1 := (ho.blk_lt hj).1; omega)).setCell (p := ⟨w1.heap.size, 1, none⟩) (by show w.heap.size ≤ w1.heap.size; omega) (.slice qa qn qc))
    have hX8 := hX7.out.set 1 (.slice qa qn qc)
    have hR8 := ((hR.out.below hs6'.out).grown hg7.out (ho.blk_ne (by omega))).other (a := ⟨w1.heap.size, 1, none⟩) (by show w1.heap.size ≠ w.heap.size + 1; omega) (.slice qa qn qc)
    have hq8 := hq7.out.set_block (g := w1.heap.size) (by omega) 1 (.slice qa qn qc)
    have hp8 := hwF.out
    have hz8 : w3.heap.size ≤ (w7.setCell ⟨w1.heap.size, 1, none⟩ (.slice qa qn qc)).heap.size := by have h1 := hzw.out; have h2 := hs6'.out.size; have h3 := hg7.out.size; simp only [World.setCell, Array.size_modify]; omega
    clear hS6 hS7 hS8 hHeld X61 X71 F71 hd hd2 hSD X1 F1 hrun
    clear hs6 hp6 hq7 hg7 hp7 hwF hX6 hX7 hs6' hX hR hb ho hown hzw
    generalize (w7.setCell ⟨w1.heap.size, 1, none⟩ (.slice qa qn qc)) = wF at *
    have d7 := hp8.reads.cell t _ (ints_at (by omega))
    have d8 := hp8.reads.cell (t + 1) _ (ints_at (by omega))
    have hf := hp8.frozen (i := t) (by simp; omega)
    have hf2 := hp8.frozen (i := t + 1) (by simp; omega)
    have hab := hp8.adr_blk (i := t) (by simp; omega)
    have hab2 := hp8.adr_blk (i := t + 1) (by simp; omega)
    have hne := hp8.adr_ne (i := t) (j := t + 1) (by simp; omega) (by omega)
    have hne2 := hp8.adr_ne (i := t + 1) (j := t) (by simp; omega) (by omega)
    have hst := ((hp8.set (i := t) (by simp; omega) (.int .i64 (nth zz (t + 1)))).set (i := t + 1) (by simp; omega) (.int .i64 (nth zz t))).drew
    rw [ints_set, ints_set] at hst
    have hst2 := hid (show Own _ (w1.heap.size + 1) 2 p (ints (swapAt zz t)) from hst)
    have hq9 := hid ((hq8.other (a := adr p t) (fun e => by have h1 := (hq8.blk_lt e).1; have h2 := (hpb.out _ hab.1).2; omega) (.int .i64 (nth zz (t + 1)))).other (a := adr p (t + 1)) (fun e => by have h1 := (hq8.blk_lt e).1; have h2 := (hpb.out _ hab2.1).2; omega) (.int .i64 (nth zz t))).drew
    have hX9 := hid (((hX8.other (a := adr p t) (by have := hab.2.1; omega) (.int .i64 (nth zz (t + 1)))).other (a := adr p (t + 1)) (by have := hab2.2.1; omega) (.int .i64 (nth zz t))).drew)
    have hR9 := hid (((hR8.other (a := adr p t) (by have := hab.2.1; omega) (.int .i64 (nth zz (t + 1)))).other (a := adr p (t + 1)) (by have := hab2.2.1; omega) (.int .i64 (nth zz t))).drew)
    have hbF := hid (((hbX.out.setCell (p := adr p t) (by have := hab.2.1; omega) (.int .i64 (nth zz (t + 1)))).setCell (p := adr p (t + 1)) (by have := hab2.2.1; omega) (.int .i64 (nth zz t))).drew)
    have hzF := hid (show w3.heap.size ≤ (((wF.setCell (adr p t) (.int .i64 (nth zz (t + 1)))).setCell (adr p (t + 1)) (.int .i64 (nth zz t))).drew).heap.size from by simp only [World.drew, World.setCell, Array.size_modify]; exact hz8)
    have hEF := hid (show (d ++ BL) ++ dwI (l.drop (k + 1)) (swapAt zz t) = dwI l z by rw [List.append_assoc, ← hStep.out]; exact hE.out)
    have hin := hid (show ints (d ++ BL) = ints d ++ ints BL by simp [ints])
    have hlF : (swapAt zz t).length = z.length := by rw [length_swapAt]; exact hzn
    clear hst hab hab2 hp8 hq8 hX8 hR8 hbX hz8 hSum
    go_wp2_with fail
    go_region
    go_wp2_with fail
    go_roundw
    case rel => exact ⟨k + 1, swapAt zz t, d ++ BL, .slice qa qn qc, by omega, by go_num, hSw, hlF, hEF, by rw [List.length_append]; omega, hR9.out, hX9.out, by rw [hin.out]; exact hq9.out, hst2.out, hbF, hzF⟩
    case measure => simp [intOf] <;> omega


end Go.Proofs.Ytmeccemnmkobbaa
