/- Contracts: slices joined to one, copies. -/
import Derived.Test.YtkgdbobhppmaiaaDoorNob
import Derived.Test.YtkgdbobhppmaiaaDoorSli
import Derived.Lib.AppendZerosOnto
namespace Go.Proofs.YtkgdbobhppmaiaaDoor
open Go.RowKit

/-- append with operands of two types: gc's append of a make -/
theorem wpList_app2 {P : Program} {w w' : World} {ops : Array Oper} {rest : List Oper} {o : Oper} {a : Act} {Q : Exit → Act → World → Prop} {v v' u : Value} {T T2 : TypeId}
    (hr : (Builtin.append_ #[T, T2] o.type #[v, u]).run P w = .ok v' w') (hg : o.guard = none) (s x : Operand)
    (ho : o.op = .call { callee := .builtin .append, args := #[s, x], argTypes := #[T, T2] }) (hs : a.eval s = v) (hx : a.eval x = u)
    (hK : wpList P ops Q rest (a.put o.dst v') w') : wpList P ops Q (o :: rest) a w := by
  refine wpList_plain hg fun K hK' => ?_
  unfold Oper.wp
  simp [execOp, ho, resolve, invoke, builtin, hs, hx, hr, Result.andThen]
  exact hK' _ _ hK

set_option maxRecDepth 100000 in
set_option maxHeartbeats 1000000 in
theorem grow_nil (n : Int) (w : World) (n0 : 0 ≤ n) (n1 : n ≤ 1048576) :
    Calls Tryd.prog 98 #[.slice none 0 0, .int .i64 n] w fun e w' => ∃ u, e = .returned u ∧ Own w' w.heap.size 2 u [] ∧ Below w.heap.size w w' := by
  by_cases hz : n = 0
  · subst hz
    go_enter Tryd.func98, Tryd.ntmps98
    go_wp2_with fail
    go_ret
    exact ⟨_, rfl, Own.nilv _ _ _, Below.refl _ _⟩
  · obtain ⟨k, rfl⟩ := Int.eq_ofNat_of_zero_le n0
    obtain ⟨i, hi, hz', hi1, h8⟩ := info_parts infoI
    have hk : 0 < k := by omega
    have hr := Go.Lib.run_append_grow_zeros (P := Tryd.prog) w 35 3 35 2 i (.int .i64 0) .i64 .i64 sliceI (by kernel_rfl) hi hz' none 0 0 [] (by simp [Builtin.firstCells]) k hk (by omega) (by omega) (by omega) (by rw [h8]; omega) (by rw [h8]; exact growslice_fits (by omega) (by omega))
    have hge := grownCap_ge w (0 + k) 0 2
    have hcm := grownCap_le_maxLen w (0 + k) 0 2 (by simp [maxLen]; omega)
    simp only [maxLen] at hcm
    generalize grownCap w (0 + k) 0 2 = cap at *
    have hown : Own (w.drew.alloc (.cells (([] : List Value).toArray ++ Builtin.zeroCells (Value.int .i64 0).cells k ++ Builtin.zeroCells (Value.int .i64 0).cells (cap - (0 + k))) 2)) w.heap.size 2 (.slice (some ⟨w.heap.size, 0, none⟩) (0 + k) cap) (Builtin.zeroCells (Value.int .i64 0).cells k).toList := by
      refine .inr ⟨w.heap.size, 0, cap, _, by simp [size_zeroCells, Value.cells], Nat.le_refl _, heap_alloc_new w.drew _, by simp [size_zeroCells, Value.cells]; omega, by omega, by simp [size_zeroCells, Value.cells]; omega, ?_⟩
      simp
    have hb : Below w.heap.size w (w.drew.alloc (.cells (([] : List Value).toArray ++ Builtin.zeroCells (Value.int .i64 0).cells k ++ Builtin.zeroCells (Value.int .i64 0).cells (cap - (0 + k))) 2)) := (Below.refl _ w).drew.alloc (Nat.le_refl _) _
    generalize w.drew.alloc (.cells (([] : List Value).toArray ++ Builtin.zeroCells (Value.int .i64 0).cells k ++ Builtin.zeroCells (Value.int .i64 0).cells (cap - (0 + k))) 2) = w1 at *
    have hsl := hown.reads.upto_run (P := Tryd.prog) sliceI sizeI .i64 0 (by omega) (by omega)
    have hown2 := hown.upto 0 (Nat.zero_le _)
    rw [List.take_zero] at hown2
    have hne : ¬ ((k : Int) < 0) := by omega
    have hpos : (0 : Int) < (k : Int) := by omega
    clear hown hi hz' hi1 h8 hz
    go_enter Tryd.func98, Tryd.ntmps98
    go_wp2_with (at_builtin; refine wpList_app2 hr rfl _ _ rfl rfl rfl ?_)
    go_ret
    exact ⟨_, rfl, hown2, hb⟩


theorem flat_take {ls : List (List Int)} {k : Nat} (h : k < ls.length) : (ls.take (k + 1)).flatten = (ls.take k).flatten ++ rat ls k := by
  rw [take_rat h]; simp
theorem length_flat (ls : List (List Int)) : (ls.flatten.length : Int) = tot ls := by
  induction ls with
  | nil => rfl
  | cons l ls ih => rw [List.flatten_cons, List.length_append, tot_cons]; omega

set_option maxRecDepth 100000 in
set_option maxHeartbeats 2000000 in
theorem concat_run (v : Value) (ls : List (List Int)) (w : World) (h : ReadsII w v ls) (hl : tot ls ≤ 1048576) :
    Calls Tryd.prog 75 #[v] w fun e w' => ∃ u, e = .returned u ∧ Own w' w.heap.size 2 u (ints ls.flatten) ∧ Below w.heap.size w w' := by
  obtain ⟨vs, hv, hvr⟩ := h
  have hs := hv.small
  have hlen := hv.len (P := Tryd.prog) 101 3 ⟨_, sliceII⟩
  have ev := hvr.len
  rw [ev] at hs hlen
  go_enter Tryd.func75, Tryd.ntmps75
  go_wp2_with fail
  go_loop [3, 5, 11] (fun x _ i => ∃ k : Nat, k ≤ ls.length ∧ i = .int .i64 k ∧ x = .int .i64 (tot (ls.take k))) (fun _ _ i => ls.length - (intOf i).toNat)
  case atStart => exact ⟨0, by omega, rfl, rfl⟩
  case round =>
    obtain ⟨k, hk, rfl, rfl⟩ := hrel
    have t3 := tot_nonneg (ls.take k)
    have t2 := tot_take_le (ls := ls) k
    by_cases hlt : k < ls.length
    · have hi := hv.idx 101 sliceII sizeSI .i64 k (by omega) (by omega)
      simp only [Int.toNat_natCast] at hi
      have hc := hv.cell k _ (vat_of (by omega))
      have hrow := hvr.row k hlt
      have hrl := hrow.len (P := Tryd.prog) 35 3 ⟨_, sliceI⟩
      simp only [length_ints] at hrl
      have t1 := tot_take hlt
      have t4 := tot_take_le (ls := ls) (k + 1)
      have hT := hid t1
      have hge : ¬ (tot (ls.take k) + ((rat ls k).length : Int) < 0) := by omega
      have hub : tot (ls.take k) + ((rat ls k).length : Int) ≤ 1048576 := by omega
      clear t1
      go_wp2_with fail
      go_round
      case rel => exact ⟨k + 1, by omega, by go_num, by rw [hT.out]⟩
      case measure => simp [intOf]; omega
    · obtain rfl : k = ls.length := by omega
      rw [List.take_of_length_le (Nat.le_refl _)] at *
      go_wp2_with fail
      refine (grow_nil _ _ t3 (by omega)).mono ?_
      rintro e w1 ⟨u, rfl, ho, hb1⟩
      go_wp2_with fail
      go_loopw [6, 8, 27] (fun u _ i wr => ∃ k : Nat, k ≤ ls.length ∧ i = .int .i64 k ∧ Own wr w.heap.size 2 u (ints (ls.take k).flatten) ∧ Below w.heap.size w wr) (fun _ _ i _ => ls.length - (intOf i).toNat)
      case atStart => exact ⟨0, by omega, rfl, ho, hb1⟩
      case round =>
        clear ho hb1
        obtain ⟨k, hk, rfl, hown, hb⟩ := hrel
        by_cases hlt : k < ls.length
        · have hi := hv.idx 101 sliceII sizeSI .i64 k (by omega) (by omega)
          simp only [Int.toNat_natCast] at hi
          have hc := (hv.below hb).cell k _ (vat_of (by omega))
          have hrow := (hvr.below hb).row k hlt
          have t4 := tot_take_le (ls := ls) (k + 1)
          have hF := hid (flat_take hlt)
          have hfl := length_flat (ls.take (k + 1))
          rw [hF.out, List.length_append] at hfl
          obtain ⟨v', w', hrun, hown', hg⟩ := app_run (ty := 35) sliceI infoI rfl hown hrow (oneCell_ints _) hb.size (by simp at hfl ⊢; omega) (by decide)
          have hb2 := hb.grown hg hb.size (fun k hk => (hown.blk_lt hk).1)
          have hst : Own w' w.heap.size 2 v' (ints (ls.take (k + 1)).flatten) := by rw [hF.out]; simpa [ints] using hown'
          clear hown' hg hfl
          go_wp2_with (at_builtin; refine wpList_app hrun rfl _ _ rfl rfl rfl ?_)
          go_roundw
          case rel => exact ⟨k + 1, by omega, by go_num, hst, hb2⟩
          case measure => simp [intOf]; omega
        · obtain rfl : k = ls.length := by omega
          rw [List.take_of_length_le (Nat.le_refl _)] at hown
          go_wp2_with fail
          go_ret
          exact ⟨_, rfl, hown, hb⟩


end Go.Proofs.YtkgdbobhppmaiaaDoor
