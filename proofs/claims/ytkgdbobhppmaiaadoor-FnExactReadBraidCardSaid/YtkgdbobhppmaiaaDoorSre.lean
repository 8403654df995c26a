/- Contracts: drawn braids. -/
import Derived.Test.YtkgdbobhppmaiaaDoorRed
import Derived.Laws.Bits64b
import Derived.Test.YtkgdbobhppmaiaaDoorDel
namespace Go.Proofs.YtkgdbobhppmaiaaDoor
open Go.RowKit
open Pm

theorem sliceY : Tryd.prog.underlying 46 = some (.slice 5) := by kernel_rfl
theorem sizeY : (sizeOf 5).run Tryd.prog = fun w => .ok 1 w := by funext w; kernel_rfl
def bytes (l : List Int) : List Value := l.map (Value.int .u8)
@[simp] theorem length_bytes (l : List Int) : (bytes l).length = l.length := by simp [bytes]
theorem bytes_at {l : List Int} {i : Nat} (h : i < l.length) : (bytes l)[i]? = some (.int .u8 (nth l i)) := by simp [bytes, nth, h]

theorem nth_in {l : List Int} {i : Nat} (h : i < l.length) : nth l i ∈ l := by
  have e : nth l i = l[i] := by simp [nth, h]
  rw [e]; exact List.getElem_mem h
theorem reads_mt {w w' : World} {v : Value} (h : Reads w v []) : Reads w' v [] := ⟨h.form, h.small, h.cap, fun i x hx => by simp at hx⟩
theorem blk_small {w : World} {v : Value} {xs : List Value} (h : Reads w v xs) (hne : xs ≠ []) {k : Nat} (hk : blk v = some k) : k < w.heap.size := by
  obtain ⟨a, c, rfl, -⟩ := h.form
  cases a with
  | none => simp [blk] at hk
  | some a =>
    cases xs with
    | nil => exact absurd rfl hne
    | cons x xs =>
      have h1 := World.block_lt_of_cell? w _ (h.cell 0 x rfl)
      have h2 : a.block = k := by simpa [blk] using hk
      rw [← h2]; exact h1
theorem u64_range (x : Int) : 0 ≤ IntKind.u64.wrap x ∧ IntKind.u64.wrap x < 18446744073709551616 := by
  have e : IntKind.u64.wrap x = x % 18446744073709551616 := rfl
  rw [e]; omega
theorem and255 {S : Int} (h0 : 0 ≤ S) (h1 : S < 18446744073709551616) : 0 ≤ wrap64 (bits BinOp.and IntKind.u64 (S / 1099511627776) 255) ∧ wrap64 (bits BinOp.and IntKind.u64 (S / 1099511627776) 255) ≤ 255 := by
  obtain ⟨n, hn⟩ := Int.eq_ofNat_of_zero_le (show 0 ≤ S / 1099511627776 by omega)
  rw [hn, show (255 : Int) = ((255 : Nat) : Int) from rfl, bits_and_u64_nat n 255 (by omega) (by omega)]
  have := @Nat.and_le_right n 255
  unfold wrap64
  omega
/-- of old memory block g alone may have turned -/
structure GrG (w w' : World) (g : Nat) : Prop where
  os : w'.os = w.os
  tape : w'.tape = w.tape
  output : w'.output = w.output
  size : w.heap.size ≤ w'.heap.size
  block : ∀ k, k < w.heap.size → k ≠ g → w'.heap[k]? = w.heap[k]?
theorem GrG.refl (w : World) (g : Nat) : GrG w w g := ⟨rfl, rfl, rfl, Nat.le_refl _, fun _ _ _ => rfl⟩
theorem GrG.trans {w w' w'' : World} {g : Nat} (h : GrG w w' g) (k : GrG w' w'' g) : GrG w w'' g :=
  ⟨k.os.trans h.os, k.tape.trans h.tape, k.output.trans h.output, Nat.le_trans h.size k.size, fun i hi h1 => (k.block i (Nat.lt_of_lt_of_le hi h.size) h1).trans (h.block i hi h1)⟩
theorem GrG.ofBelow {w w' : World} (g : Nat) (h : Below w.heap.size w w') : GrG w w' g := ⟨h.os, h.tape, h.output, h.size, fun k hk _ => h.block k hk⟩
theorem GrG.set {w w' : World} {g : Nat} (h : GrG w w' g) (i : Nat) (u : Value) : GrG w (w'.setCell ⟨g, i, none⟩ u) g :=
  ⟨h.os, h.tape, h.output, by simpa [World.setCell] using h.size, fun k hk h1 => (Below.heap_setCell _ _ _ _ (fun e => h1 e)).trans (h.block k hk h1)⟩
theorem GrG.drewN {w w' : World} {g : Nat} (h : GrG w w' g) (n : Nat) : GrG w (w'.drewN n) g := ⟨h.os, h.tape, h.output, h.size, h.block⟩
theorem GrG.reads {w w' : World} {g : Nat} (h : GrG w w' g) {v : Value} {xs : List Value} (hr : Reads w v xs) (hne : blk v ≠ some g) : Reads w' v xs := hr.keep fun k hk hlt => h.block k hlt (fun e => hne (by rw [hk, e]))
theorem GrG.own {w w' : World} {g : Nat} (h : GrG w w' g) {B : Nat} {e : TypeId} {v : Value} {xs : List Value} (hr : Own w B e v xs) (hne : g < B) : Own w' B e v xs := hr.keep fun k hk hlt => h.block k hlt (fun e => by have := (hr.blk_lt hk).1; omega)
theorem GrG.code {w w' : World} {g : Nat} (h : GrG w w' g) {v : Value} {cs : List Int} (hr : Reads w v (bytes cs)) (ha : cs = [] ∨ ∀ k, blk v = some k → k < g) : Reads w' v (bytes cs) := by
  rcases ha with rfl | ha
  · exact reads_mt hr
  · exact h.reads hr fun e => by have := ha g e; omega
theorem GrG.grown {w wr w' : World} {g : Nat} (h : GrG w wr g) {row : Option Nat} (hg : wr.grownBy w' row) (hr : ∀ k, row = some k → w.heap.size ≤ k) : GrG w w' g :=
  ⟨hg.os.trans h.os, hg.tape.trans h.tape, hg.output.trans h.output, Nat.le_trans h.size hg.size, fun k hk h1 => (hg.block k (Nat.lt_of_lt_of_le hk h.size) (fun e => by have := hr k e.symm; omega)).trans (h.block k hk h1)⟩
theorem GrG.below {w w' : World} {g : Nat} (h : GrG w w' g) (hg : g ≤ w.heap.size) : Below g w w' := ⟨h.os, h.tape, h.output, h.size, fun k hk => h.block k (by omega) (by omega)⟩

/-- the source of choices in block g: bytes cs, at most k of them read -/
structure Src (w : World) (g : Nat) (cv : Value) (cs : List Int) (k : Nat) : Prop where
  box : ∃ (a : Nat) (s : Int), a ≤ k ∧ 0 ≤ s ∧ s < 18446744073709551616 ∧ Bx w g [cv, .int .i64 a, .int .u64 s]
  code : Reads w cv (bytes cs)
  apart : cs = [] ∨ ∀ k, blk cv = some k → k < g
  rng : ∀ i, i < cs.length → 0 ≤ nth cs i ∧ nth cs i ≤ 255
  short : cs.length ≤ 1048576
theorem Src.more {w : World} {g : Nat} {cv : Value} {cs : List Int} {k k' : Nat} (h : Src w g cv cs k) (hk : k ≤ k') : Src w g cv cs k' := by
  obtain ⟨⟨a, s, h1, h2⟩, h3, h4, h5, h6⟩ := h
  exact ⟨⟨a, s, by omega, h2⟩, h3, h4, h5, h6⟩
theorem Src.grown {w w' : World} {g : Nat} {cv : Value} {cs : List Int} {k : Nat} (h : Src w g cv cs k) {row : Option Nat} (hg : w.grownBy w' row) (hr : ∀ k, row = some k → g < k) : Src w' g cv cs k := by
  obtain ⟨⟨a, s, h1, h2, h2', hX⟩, h3, h4, h5, h6⟩ := h
  refine ⟨⟨a, s, h1, h2, h2', hX.grown hg (fun e => by have := hr g e; omega)⟩, ?_, h4, h5, h6⟩
  rcases h4 with rfl | h4
  · exact reads_mt h3
  · exact h3.grown hg fun k hk e => by have := h4 k hk; have := hr k e; omega
theorem Src.next {w w' : World} {g : Nat} {cv : Value} {cs : List Int} {k : Nat} (h : Src w g cv cs k) (hb : Below w.heap.size w w') : Src w' g cv cs k := by
  obtain ⟨⟨a, s, h1, h2, h2', hX⟩, h3, h4, h5, h6⟩ := h
  exact ⟨⟨a, s, h1, h2, h2', hX.below hb⟩, h3.below hb, h4, h5, h6⟩

set_option maxRecDepth 100000 in
set_option maxHeartbeats 4000000 in
theorem next_src (g : Nat) (cv : Value) (cs : List Int) (k : Nat) (w : World) (h : Src w g cv cs k) (hk : k ≤ 1000000) :
    Calls Tryd.prog 116 #[.pointer (some ⟨g, 0, none⟩)] w fun e w' => ∃ x : Int, e = .returned (.int .i64 x) ∧ 0 ≤ x ∧ x ≤ 255 ∧ Src w' g cv cs (k + 1) ∧ GrG w w' g := by
  obtain ⟨⟨a, s, ha, hs0, hs1, hX⟩, hR, hap, hrng, hsh⟩ := h
  have hlen := hR.len (P := Tryd.prog) 46 3 ⟨_, sliceY⟩
  rw [length_bytes] at hlen
  have hsm := hR.small
  rw [length_bytes] at hsm
  have hR0 := hid hR
  have c0 := hX.cell 0 rfl
  have c1 := hX.cell 1 rfl
  have c2 := hX.cell 2 rfl
  go_enter Tryd.func116, Tryd.ntmps116
  go_wp2_with fail
  by_cases hlt : a < cs.length
  case' pos =>
    have hi := hR.idx 46 sliceY sizeY .i64 a (by omega) (by rw [length_bytes]; omega)
    simp only [Int.toNat_natCast] at hi
    have hc := hR.cell a _ (bytes_at hlt)
    have hr := hrng a hlt
    go_quiet (fail)
    have hX1 := hX.drewN nq
    have hR1 := hR.drewN nq
    have hG1 := (GrG.refl w g).drewN nq
    have hc1 := (hR.drewN nq).cell a _ (bytes_at hlt)
    generalize w.drewN nq = w1 at *
    have c0 := hX1.cell 0 rfl
    have c1 := hX1.cell 1 rfl
    clear hc nq
    go_wp2_with fail
    go_quiet (fail)
    have hX2 := hX1.drewN nq
    have hR2 := hR1.drewN nq
    have hG2 := hG1.drewN nq
    generalize w1.drewN nq = w2 at *
    clear hX1 hR1 hG1 hc1
    clear hX hR c0 c1 c2
    have d0 := hX2.cell 0 rfl
    have d1 := hX2.cell 1 rfl
    have d2 := (hX2.set 1 (.int .i64 ((a : Int) + 1))).cell 2 rfl
    have f1 := hX2.frozen 1
    have f2 := (hX2.set 1 (.int .i64 ((a : Int) + 1))).frozen 2
    replace hG2 := hid hG2
    replace hR2 := hid hR2
    replace hX2 := hid hX2
    go_wp2_with fail
    generalize hS : IntKind.u64.wrap (IntKind.u64.wrap (IntKind.u64.wrap (s * 6364136223846793005) + nth cs a) + 1442695040888963407) = S at *
  case' neg =>
    go_quiet (fail)
    have hX2 := hX.drewN nq
    have hR2 := hR.drewN nq
    have hG2 := (GrG.refl w g).drewN nq
    generalize w.drewN nq = w2 at *
    have hr : (0 : Int) ≤ 0 ∧ (0 : Int) ≤ 255 := by omega
    clear hX hR c0 c1 c2
    have d0 := hX2.cell 0 rfl
    have d1 := hX2.cell 1 rfl
    have d2 := (hX2.set 1 (.int .i64 ((a : Int) + 1))).cell 2 rfl
    have f1 := hX2.frozen 1
    have f2 := (hX2.set 1 (.int .i64 ((a : Int) + 1))).frozen 2
    replace hG2 := hid hG2
    replace hR2 := hid hR2
    replace hX2 := hid hX2
    go_wp2_with fail
    generalize hS : IntKind.u64.wrap (IntKind.u64.wrap (IntKind.u64.wrap (s * 6364136223846793005)) + 1442695040888963407) = S at *
  all_goals
    have hSr : 0 ≤ S ∧ S < 18446744073709551616 := by rw [← hS]; exact u64_range _
    clear hS
    have hXS := (hX2.out.set 1 (.int .i64 ((a : Int) + 1))).set 2 (.int .u64 S)
    have hGS := hid ((hG2.out.set 1 (.int .i64 ((a : Int) + 1))).set 2 (.int .u64 S))
    have hRS := hid (hGS.out.code hR0.out hap)
    generalize (w2.setCell ⟨g, 1, none⟩ (.int .i64 ((a : Int) + 1))).setCell ⟨g, 2, none⟩ (.int .u64 S) = wS at *
    have e0 := hXS.cell 0 rfl
    have e1 := hXS.cell 1 rfl
    clear d0 d1 d2 f1 f2 hX2 hR2 hG2
    go_wp2_with fail
    go_quiet (fail)
    have hXF := hXS.drewN nq
    have hGF := hid (hGS.out.drewN nq)
    have hRF := hid (hRS.out.drewN nq)
    generalize wS.drewN nq = wF at *
    have e2 := hXF.cell 2 rfl
    have hend := hid (show Src wF g cv cs (k + 1) from ⟨⟨a + 1, S, by omega, hSr.1, hSr.2, hXF⟩, hRF.out, hap, hrng, hsh⟩)
    clear hXS hXF e0 e1
    by_cases hle : (a : Int) + 1 ≤ cs.length
    · go_wp2_with fail
      all_goals
        go_ret
        exact ⟨_, rfl, hr.1, hr.2, hend.out, hGF.out⟩
    · go_wp2_with fail
      all_goals
        go_ret
        exact ⟨_, rfl, (and255 hSr.1 hSr.2).1, (and255 hSr.1 hSr.2).2, hend.out, hGF.out⟩


set_option maxRecDepth 100000 in
set_option maxHeartbeats 4000000 in
theorem pick_src (g : Nat) (cv : Value) (cs : List Int) (k : Nat) (n : Int) (w : World) (h : Src w g cv cs k) (hk : k ≤ 900000) (hn0 : -1000000 ≤ n) (hn : n ≤ 1000000) :
    Calls Tryd.prog 96 #[.pointer (some ⟨g, 0, none⟩), .int .i64 n] w fun e w' => ∃ x : Int, e = .returned (.int .i64 x) ∧ 0 ≤ x ∧ (x < n ∨ x = 0) ∧ Src w' g cv cs (k + 2) ∧ GrG w w' g := by
  by_cases h1 : n ≤ 1
  · go_enter Tryd.func96, Tryd.ntmps96
    go_wp2_with fail
    go_ret
    exact ⟨_, rfl, Int.le_refl _, .inr rfl, h.more (by omega), GrG.refl _ _⟩
  · go_enter Tryd.func96, Tryd.ntmps96
    go_wp2_with fail
    refine (next_src g cv cs k w h (by omega)).mono ?_
    rintro e w1 ⟨x, rfl, hx0, hx1, hS1, hG1⟩
    by_cases h2 : n > 200
    · replace hS1 := hid hS1
      go_wp2_with fail
      refine (next_src g cv cs (k + 1) w1 hS1.out (by omega)).mono ?_
      rintro e w2 ⟨y, rfl, hy0, hy1, hS2, hG2⟩
      have hm := hid (⟨Int.emod_nonneg (x * 256 + y) (show n ≠ 0 by omega), Int.emod_lt_of_pos (x * 256 + y) (show 0 < n by omega)⟩ : _ ∧ _)
      replace hS2 := hid hS2
      go_wp2_with fail
      go_ret
      exact ⟨_, rfl, hm.out.1, .inl hm.out.2, hS2.out, hG1.trans hG2⟩
    · have hm := hid (⟨Int.emod_nonneg x (show n ≠ 0 by omega), Int.emod_lt_of_pos x (show 0 < n by omega)⟩ : _ ∧ _)
      replace hS1 := hid hS1
      go_wp2_with fail
      go_ret
      exact ⟨_, rfl, hm.out.1, .inl hm.out.2, hS1.out.more (by omega), hG1⟩

set_option maxRecDepth 100000 in
set_option maxHeartbeats 4000000 in
theorem one_src (g : Nat) (cv : Value) (cs : List Int) (k : Nat) (n : Int) (w : World) (h : Src w g cv cs k) (hk : k ≤ 900000) (hn0 : -1000000 ≤ n) (hn : n ≤ 1000000) :
    Calls Tryd.prog 97 #[.pointer (some ⟨g, 0, none⟩), .int .i64 n] w fun e w' => ∃ b : Bool, e = .returned (.bool b) ∧ Src w' g cv cs (k + 2) ∧ GrG w w' g := by
  go_enter Tryd.func97, Tryd.ntmps97
  go_wp2_with fail
  refine (pick_src g cv cs k n w h hk hn0 hn).mono ?_
  rintro e w1 ⟨x, rfl, hx0, hx1, hS1, hG1⟩
  replace hS1 := hid hS1
  go_wp2_with fail
  all_goals
    go_ret
    exact ⟨_, rfl, hS1.out, hG1⟩

set_option maxRecDepth 100000 in
set_option maxHeartbeats 4000000 in
theorem among_src (g : Nat) (cv v : Value) (cs l : List Int) (k : Nat) (w : World) (h : Src w g cv cs k) (hv : Reads w v (ints l)) (hva : blk v ≠ some g) (hl0 : 0 < l.length) (hl : l.length ≤ 1000) (hk : k ≤ 900000) :
    Calls Tryd.prog 95 #[.pointer (some ⟨g, 0, none⟩), v] w fun e w' => ∃ x : Int, e = .returned (.int .i64 x) ∧ x ∈ l ∧ Src w' g cv cs (k + 2) ∧ GrG w w' g := by
  have hlen := hv.len (P := Tryd.prog) 35 3 ⟨_, sliceI⟩
  rw [length_ints] at hlen
  go_enter Tryd.func95, Tryd.ntmps95
  go_wp2_with fail
  refine (pick_src g cv cs k l.length w h hk (by omega) (by omega)).mono ?_
  rintro e w1 ⟨x, rfl, hx0, hx1, hS1, hG1⟩
  obtain ⟨i, rfl⟩ := Int.eq_ofNat_of_zero_le hx0
  have hil : i < l.length := by omega
  have hv1 := hG1.reads hv hva
  have hi := hv1.idx 35 sliceI sizeI .i64 i (by omega) (by rw [length_ints]; omega)
  simp only [Int.toNat_natCast] at hi
  have hc := hv1.cell i _ (ints_at hil)
  have hm := hid (nth_in hil)
  replace hS1 := hid hS1
  go_wp2_with fail
  go_ret
  exact ⟨_, rfl, hm.out, hS1.out, hG1⟩


set_option maxRecDepth 100000 in
set_option maxHeartbeats 4000000 in
theorem from_src (cv : Value) (cs : List Int) (w : World) (h : Reads w cv (bytes cs)) (hr : ∀ i, i < cs.length → 0 ≤ nth cs i ∧ nth cs i ≤ 255) (hs : cs.length ≤ 1048576) :
    Calls Tryd.prog 72 #[cv] w fun e w' => e = .returned (.pointer (some ⟨w.heap.size, 0, none⟩)) ∧ Src w' w.heap.size cv cs 0 ∧ Below w.heap.size w w' := by
  have hX := Bx.new w #[cv, .int .i64 0, .int .u64 0] 99
  have hb : Below w.heap.size w (w.alloc (.cells #[cv, .int .i64 0, .int .u64 0] 99)) := (Below.refl _ _).alloc (Nat.le_refl _) _
  have hR := h.below hb
  have hap : cs = [] ∨ ∀ k, blk cv = some k → k < w.heap.size := by
    by_cases e : cs = []
    · exact .inl e
    · exact .inr fun k hk => blk_small h (fun e2 => e (by simpa [bytes] using e2)) hk
  obtain ⟨a, n, c, hcv⟩ : ∃ a n c, cv = .slice a n c := by obtain ⟨a, c, e, -⟩ := h.form; exact ⟨a, _, c, e⟩
  subst hcv
  go_enter Tryd.func72, Tryd.ntmps72
  go_wp2_with fail
  go_ret
  exact ⟨rfl, ⟨⟨0, 0, Nat.le_refl _, Int.le_refl _, by omega, hX⟩, hR, hap, hr, hs⟩, hb⟩

theorem own_lit' {w : World} {B : Nat} {e : TypeId} {v : Value} {xs : List Value} (h : Own w B e v xs) : ∃ a n c, v = .slice a n c := by
  obtain ⟨a, c, e, -⟩ := h.reads.form
  exact ⟨a, _, c, e⟩
/-- a word on n strands, of at most m letters -/
def Wrd (n m : Nat) (l : List Int) : Prop := l.length ≤ m ∧ ∀ i, i < l.length → nth l i ≠ 0 ∧ 1 - (n : Int) ≤ nth l i ∧ nth l i ≤ n - 1
theorem Wrd.snoc {n m : Nat} {l : List Int} (h : Wrd n m l) {x : Int} (h0 : x ≠ 0) (h1 : 1 - (n : Int) ≤ x) (h2 : x ≤ n - 1) : Wrd n (m + 1) (l ++ [x]) := by
  refine ⟨by have := h.1; simp; omega, fun i hi => ?_⟩
  rw [List.length_append, List.length_singleton] at hi
  by_cases e : i < l.length
  · have := h.2 i e; unfold nth at *; rwa [List.getElem?_append_left e]
  · obtain rfl : i = l.length := by omega
    have : nth (l ++ [x]) l.length = x := by simp [nth]
    rw [this]; exact ⟨h0, h1, h2⟩

set_option maxRecDepth 100000 in
set_option maxHeartbeats 8000000 in
theorem word_src (g : Nat) (cv : Value) (cs : List Int) (k n : Nat) (w : World) (h : Src w g cv cs k) (hk : k ≤ 100000) (hn : n ≤ 12) (hg : g < w.heap.size) :
    Calls Tryd.prog 74 #[.pointer (some ⟨g, 0, none⟩), .int .i64 (n : Int), .int .i64 8] w fun e w' => ∃ u l, e = .returned u ∧ Own w' w.heap.size 2 u (ints l) ∧ Wrd n 8 l ∧ Src w' g cv cs (k + 42) ∧ GrG w w' g := by
  have ho := own_empty w 2 (Nat.le_refl w.heap.size)
  have hb : Below w.heap.size w (w.alloc (.cells #[] 2)) := (Below.refl _ _).alloc (Nat.le_refl _) _
  have hS := h.next hb
  have hG := GrG.ofBelow g hb
  go_enter Tryd.func74, Tryd.ntmps74
  by_cases h2 : n < 2
  · have h2' : (n : Int) < 2 := by omega
    have ho' := hid ho
    have hS' := hid hS
    have hG' := hid hG
    clear ho hS hG h
    go_wp2_with fail
    go_ret
    exact ⟨_, [], rfl, by simpa [ints] using ho'.out, ⟨by simp, fun i hi => absurd hi (by simp)⟩, hS'.out.more (by omega), hG'.out⟩
  · have h2' : ¬ (n : Int) < 2 := by omega
    generalize hoe : Value.slice (some ⟨w.heap.size, 0, none⟩) 0 0 = o0 at *
    have hgw := hg
    have hwz : w.heap.size + 1 ≤ (w.alloc (.cells #[] 2)).heap.size := by simp
    clear h hb
    go_wp2_with fail
    generalize w.alloc (.cells #[] 2) = w1 at *
    refine (pick_src g cv cs k 9 w1 hS (by omega) (by omega) (by omega)).mono ?_
    rintro e w2 ⟨x, rfl, hx0, hx1, hS2, hG2⟩
    have hO2 := hid (hG2.own ho hg)
    have hS2' := hid hS2
    have hG2' := hid (hG.trans hG2)
    have hz2 := hG2.size
    clear hS2 hG2 hS hG ho hoe
    go_wp2_with fail
    go_loopw [7, 8, 9] (fun o i _ wr => ∃ (x : Int) (l : List Int), 0 ≤ x ∧ x ≤ 8 ∧ i = .int .i64 x ∧ Own wr w.heap.size 2 o (ints l) ∧ Wrd n (8 - x.toNat) l ∧ Src wr g cv cs (k + 2 + 5 * (8 - x.toNat)) ∧ GrG w wr g) (fun _ i _ _ => (intOf i).toNat)
    case atStart => exact ⟨x, [], hx0, by omega, rfl, by simpa [ints] using hO2.out, ⟨by simp, fun i hi => absurd hi (by simp)⟩, hS2'.out.more (by omega), hG2'.out⟩
    case round =>
      clear hO2 hS2' hG2' hx0 hx1
      obtain ⟨x, l, hx0, hx1, rfl, ho, hW, hS, hG⟩ := hrel
      have hzr := hG.size
      by_cases hlt : 0 < x
      · have ho' := hid ho
        have hG' := hid hG
        clear ho hG
        go_wp2_with fail
        refine (pick_src g cv cs _ (n - 1) wr hS (by omega) (by omega) (by omega)).mono ?_
        rintro e w3 ⟨y, rfl, hy0, hy1, hS3, hG3⟩
        have hy2 : 1 + y ≤ n - 1 := by omega
        clear hS
        go_wp2_with fail
        refine (one_src g cv cs _ 2 w3 hS3 (by omega) (by omega) (by omega)).mono ?_
        rintro e w4 ⟨b, rfl, hS4, hG4⟩
        have ho4 := hG4.own (hG3.own ho'.out hg) hg
        have hG4' := (hG'.out.trans hG3).trans hG4
        have hz4 := hG4'.size
        clear hS3 hG3 hG4 ho' hG'
        cases b
        case' false =>
          obtain ⟨lt, hlt2, hl0, hl1, hl2⟩ : ∃ lt : Int, lt = 1 + y ∧ lt ≠ 0 ∧ 1 - (n : Int) ≤ lt ∧ lt ≤ n - 1 := ⟨1 + y, rfl, by omega, by omega, by omega⟩
        case' true =>
          obtain ⟨lt, hlt2, hl0, hl1, hl2⟩ : ∃ lt : Int, lt = -(1 + y) ∧ lt ≠ 0 ∧ 1 - (n : Int) ≤ lt ∧ lt ≤ n - 1 := ⟨-(1 + y), rfl, by omega, by omega, by omega⟩
        all_goals
          have hwl := hW.1
          have hA4 := (Below.refl w4.heap.size w4).alloc (Nat.le_refl _) (.cells #[.int .i64 lt] 2)
          have hG5 := hG4'.trans (GrG.ofBelow g hA4)
          obtain ⟨v', w5, hrun, ho5, hg5⟩ := app_run (T := 35) (ty := 35) (xs := ints l) (ys := [.int .i64 lt]) sliceI infoI rfl (ho4.below hA4) (reads_one w4 (.int .i64 lt) 2) (by simp; rfl) (by have := hA4.size; omega) (by simp; omega) (by decide)
          have hr5 : ∀ q, blk _ = some q → w.heap.size ≤ q := fun q hq => ((ho4.below hA4).blk_lt hq).1
          have hS5 := hid ((hS4.next hA4).grown hg5 fun q hq => by have := hr5 q hq; omega)
          have hG5' := hid (hG5.grown hg5 hr5)
          have ho5' := hid (show Own w5 w.heap.size 2 v' (ints (l ++ [lt])) by simpa [ints] using ho5)
          have hW5 := hid (hW.snoc hl0 hl1 hl2)
          subst hlt2
          clear hS4 ho4 hG4' hA4 hG5 ho5 hg5 hr5 hW
          go_wp2_with (at_builtin; refine wpList_app hrun rfl _ _ rfl rfl rfl ?_)
          go_roundw
          case rel => exact ⟨x - 1, l ++ [_], by omega, by omega, by go_num, ho5'.out, by have := hW5.out; rwa [show 8 - x.toNat + 1 = 8 - (x - 1).toNat by omega] at this, hS5.out.more (by omega), hG5'.out⟩
          case measure => simp [intOf]; omega
      · obtain rfl : x = 0 := by omega
        go_wp2_with fail
        go_ret
        exact ⟨_, rfl, l, ho, ⟨by have := hW.1; simpa using this, hW.2⟩, hS.more (by simp), hG⟩


theorem grown_cell (w : World) (b i : Nat) (x : Value) : w.grownBy (w.setCell ⟨b, i, none⟩ x) (some b) :=
  ⟨rfl, rfl, rfl, by simp [World.setCell], fun k _ hk => Below.heap_setCell _ _ _ _ (fun e => hk (congrArg some e))⟩
theorem Src.other {w : World} {g : Nat} {cv : Value} {cs : List Int} {k : Nat} (h : Src w g cv cs k) {b : Nat} (hb : g < b) (i : Nat) (x : Value) : Src (w.setCell ⟨b, i, none⟩ x) g cv cs k := h.grown (grown_cell w b i x) fun q hq => by injection hq with hq; omega
theorem GrG.other {w wr : World} {g : Nat} (h : GrG w wr g) {b : Nat} (hb : w.heap.size ≤ b) (i : Nat) (x : Value) : GrG w (wr.setCell ⟨b, i, none⟩ x) g := h.grown (grown_cell wr b i x) fun q hq => by injection hq with hq; omega
theorem Bx.grG {w w' : World} {g b : Nat} {cs : List Value} (h : Bx w b cs) (hg : GrG w w' g) (hb : b ≠ g) : Bx w' b cs := h.keep (hg.block b h.lt hb)

set_option maxRecDepth 100000 in
set_option maxHeartbeats 8000000 in
theorem draw_src (g : Nat) (cv : Value) (cs : List Int) (k : Nat) (w : World) (h : Src w g cv cs k) (hk : k ≤ 90000) (hg : g < w.heap.size) :
    Calls Tryd.prog 73 #[.pointer (some ⟨g, 0, none⟩), .int .i64 8] w fun e w' => ∃ (n : Nat) (u : Value) (l : List Int), e = .returned (.agg #[.int .i64 n, u]) ∧ n ≤ 5 ∧ Own w' w.heap.size 2 u (ints l) ∧ Wrd n 8 l ∧ Src w' g cv cs (k + 44) ∧ GrG w w' g := by
  have hR0 := Bx.new w #[.int .i64 0, .slice none 0 0] 40
  have hb0 : Below w.heap.size w (w.alloc (.cells #[.int .i64 0, .slice none 0 0] 40)) := (Below.refl _ _).alloc (Nat.le_refl _) _
  have hA := own_arr (w.alloc (.cells #[.int .i64 0, .slice none 0 0] 40)) 2 #[.int .i64 2, .int .i64 3, .int .i64 3, .int .i64 4, .int .i64 4, .int .i64 5, .int .i64 1, .int .i64 0] 8 rfl (by omega) (Nat.le_refl _)
  have hb1 := hb0.alloc hb0.size (.cells #[.int .i64 2, .int .i64 3, .int .i64 3, .int .i64 4, .int .i64 4, .int .i64 5, .int .i64 1, .int .i64 0] 2)
  have hR1 := hR0.alloc (.cells #[.int .i64 2, .int .i64 3, .int .i64 3, .int .i64 4, .int .i64 4, .int .i64 5, .int .i64 1, .int .i64 0] 2)
  have hS1 := h.next hb1
  have hz1 : ((w.alloc (.cells #[.int .i64 0, .slice none 0 0] 40)).alloc (.cells #[.int .i64 2, .int .i64 3, .int .i64 3, .int .i64 4, .int .i64 4, .int .i64 5, .int .i64 1, .int .i64 0] 2)).heap.size = w.heap.size + 1 + 1 := by simp
  go_enter Tryd.func73, Tryd.ntmps73
  go_wp2_with fail
  generalize (w.alloc (.cells #[.int .i64 0, .slice none 0 0] 40)).alloc (.cells #[.int .i64 2, .int .i64 3, .int .i64 3, .int .i64 4, .int .i64 4, .int .i64 5, .int .i64 1, .int .i64 0] 2) = w1 at *
  simp only [World.size_alloc] at hA
  have hA' : Reads w1 (.slice (some ⟨w.heap.size + 1, 0, none⟩) 8 8) (ints [2, 3, 3, 4, 4, 5, 1, 0]) := hA.reads
  clear hA h hb0 hR0
  refine (among_src g cv _ cs _ k w1 hS1 hA' (by simp [blk]; omega) (by simp) (by simp) (by omega)).mono ?_
  rintro e w2 ⟨x, rfl, hx, hS2, hG2⟩
  obtain ⟨n, rfl, hn⟩ : ∃ n : Nat, x = n ∧ n ≤ 5 := by
    simp only [List.mem_cons, List.not_mem_nil, or_false] at hx
    exact ⟨x.toNat, by omega, by omega⟩
  have hz2 := hG2.size
  have hR2 := hid (hR1.grG hG2 (by omega))
  have hG2' := hid ((GrG.ofBelow g hb1).trans hG2)
  clear hA' hx hS1 hG2 hR1 hb1
  go_wp2_with fail
  refine (word_src g cv cs (k + 2) n w2 hS2 (by omega) (by omega) (by omega)).mono ?_
  rintro e w3 ⟨u, l, rfl, ho, hW, hS3, hG3⟩
  obtain ⟨ua, un, uc, rfl⟩ := own_lit' ho
  have hz3 := hG3.size
  have hR3 := hR2.out.grG hG3 (by omega)
  have r0 := hR3.cell 0 rfl
  have r1 := hR3.cell 1 rfl
  have s0 := hR3.frozen 0
  have s1 := hR3.frozen 1
  have t5 := (hR3.set 0 (.int .i64 (n : Int))).set 1 (.slice ua un uc)
  have t0 := t5.cell 0 rfl
  have t1 := t5.cell 1 rfl
  have hSE := hid ((hS3.other (b := w.heap.size) hg 0 (.int .i64 (n : Int))).other (b := w.heap.size) hg 1 (.slice ua un uc))
  have hGE := hid (((hG2'.out.trans hG3).other (Nat.le_refl _) 0 (.int .i64 (n : Int))).other (Nat.le_refl _) 1 (.slice ua un uc))
  have hOE := hid ((ho.set_block (g := w.heap.size) (by omega) 0 (.int .i64 (n : Int))).set_block (g := w.heap.size) (by omega) 1 (.slice ua un uc))
  have hWW := hid hW
  clear hS3 hG3 ho hW hS2 hR3 t5
  go_wp2_with fail
  refine bodyPost_ret (v := .agg #[.int .i64 (n : Int), .slice ua un uc]) (by simp [t0, t1, results, Tryd.results73, go_sem]) rfl ⟨n, _, l, rfl, hn, hOE.out.mono (by omega), hWW.out, hSE.out, hGE.out⟩


end Go.Proofs.YtkgdbobhppmaiaaDoor

namespace Go.Proofs.YtkgdbobhppmaiaaDoor
open Go.RowKit
open Pm

/-- a call of a Go function with three arguments, as one step of a region that draws -/
theorem step_call3 {P : Program} {w : World} {ops : Array Oper} {o : Oper} {a : Act} {K : Act → World → Prop} {Q : Exit → Act → World → Prop} {E : Prop} {f : FuncId} {u1 u2 u3 : Value} {T1 T2 T3 : TypeId} {R : Ending → World → Prop}
    (hc : Calls P f #[u1, u2, u3] w R) (hf : ∀ w, (callFunc f #[u1, u2, u3]).run P w = .ok (.enter f #[u1, u2, u3]) w) (hg : o.guard = none) (x y z : Operand)
    (ho : o.op = .call { callee := .value (.func f), args := #[x, y, z], argTypes := #[T1, T2, T3] }) (hx : a.eval x = u1) (hy : a.eval y = u2) (hz : a.eval z = u3)
    (hK : ∀ e w', R e w' → ∃ v, e = .returned v ∧ K (a.put o.dst v) w') : if Region.wanted o (yielded ops a.tmps) = true then Oper.wp P o a w K Q else E := by
  have hw : Region.wanted o (yielded ops a.tmps) = true := by simp [Region.wanted, hg]
  rw [if_pos hw]
  unfold Oper.wp
  have hr : (execOp a.eval o).run P w = .ok (.enter f #[u1, u2, u3]) w := by
    have hx' : Act.eval a x = u1 := hx
    have hy' : Act.eval a y = u2 := hy
    have hz' : Act.eval a z = u3 := hz
    have h0 : a.eval (.func f) = .func (.func f) #[] #[] := rfl
    simp [execOp, ho, resolve, invoke, hx', hy', hz', h0, Deferred.ofValue, hf]
  rw [hr]
  refine hc.mono ?_
  intro e w' hr
  obtain ⟨v, rfl, hk⟩ := hK e w' hr
  exact hk

theorem heap_oth {w : World} {b c i : Nat} {x : Value} (h : c ≠ b) : (w.setCell ⟨c, i, none⟩ x).heap[b]? = w.heap[b]? := Below.heap_setCell _ _ _ _ (fun e => h e.symm)
set_option maxRecDepth 100000 in
set_option maxHeartbeats 8000000 in
theorem e8braids (cv : Value) (cs : List Int) (w : World) (h : Reads w cv (bytes cs)) (hr : ∀ i, i < cs.length → 0 ≤ nth cs i ∧ nth cs i ≤ 255) (hs : cs.length ≤ 1048576) :
    Calls Tryd.prog 39 #[cv] w fun e w' => ∃ (n : Nat) (u v : Value) (l m : List Int), e = .returned (.tuple #[.agg #[.int .i64 n, u], .agg #[.int .i64 n, v]]) ∧ n ≤ 5 ∧ Own w' w.heap.size 2 u (ints l) ∧ Own w' w.heap.size 2 v (ints m) ∧ Wrd n 8 l ∧ Wrd n 8 m ∧ Below w.heap.size w w' := by
  have hP0 := (Bx.new w #[.int .i64 0, .slice none 0 0] 40).alloc (.cells #[.int .i64 0, .slice none 0 0] 40)
  have hQ0 := Bx.new (w.alloc (.cells #[.int .i64 0, .slice none 0 0] 40)) #[.int .i64 0, .slice none 0 0] 40
  have hb0 : Below w.heap.size w ((w.alloc (.cells #[.int .i64 0, .slice none 0 0] 40)).alloc (.cells #[.int .i64 0, .slice none 0 0] 40)) := ((Below.refl _ _).alloc (Nat.le_refl _) _).alloc (by simp) _
  have hz0 : ((w.alloc (.cells #[.int .i64 0, .slice none 0 0] 40)).alloc (.cells #[.int .i64 0, .slice none 0 0] 40)).heap.size = w.heap.size + 1 + 1 := by simp
  simp only [World.size_alloc] at hQ0
  have hR0 := h.below hb0
  go_enter Tryd.func39, Tryd.ntmps39
  go_wp2_with fail
  generalize (w.alloc (.cells #[.int .i64 0, .slice none 0 0] 40)).alloc (.cells #[.int .i64 0, .slice none 0 0] 40) = w0 at *
  clear h
  refine (from_src cv cs w0 hR0 hr hs).mono ?_
  rintro e w1 ⟨rfl, hS1, hb1⟩
  have hz1 := hb1.size
  have hP1 := hP0.below hb1
  have hQ1 := hQ0.below hb1
  have hgl : w0.heap.size < w1.heap.size := by obtain ⟨⟨a, s, h1, h2, h3, hX⟩, -⟩ := hS1; exact hX.lt
  rw [hz0] at hS1 hgl
  clear hP0 hQ0 hR0
  go_wp2_with fail
  refine (draw_src (w.heap.size + 1 + 1) cv cs 0 w1 hS1 (by omega) hgl).mono ?_
  rintro e w2 ⟨n, u, l, rfl, hn, hu, hW, hS2, hG2⟩
  have hz2 := hG2.size
  obtain ⟨ua, un, uc, rfl⟩ := own_lit' hu
  have hP2 := (hP1.grG hG2 (by omega)).alloc (.cells #[.int .i64 n, .slice ua un uc] 40)
  have hQ2 := (hQ1.grG hG2 (by omega)).alloc (.cells #[.int .i64 n, .slice ua un uc] 40)
  have hX2 := Bx.new w2 #[.int .i64 n, .slice ua un uc] 40
  have hA2 := (Below.refl w2.heap.size w2).alloc (Nat.le_refl _) (.cells #[.int .i64 n, .slice ua un uc] 40)
  have hu2 := hu.below hA2
  have hS2' := hS2.next hA2
  have hbA := (((hb0.trans (hb1.mono (by omega))).trans ((hG2.below (by omega)).mono (by omega))).trans (hA2.mono (by omega)))
  have hzA : (w2.alloc (.cells #[.int .i64 n, .slice ua un uc] 40)).heap.size = w2.heap.size + 1 := by simp
  clear hP1 hQ1 hS1 hS2 hu hA2 hG2 hb1 hb0
  replace hu2 := hid hu2
  replace hbA := hid hbA
  replace hW := hid hW
  go_wp2_with fail
  generalize w2.alloc (.cells #[.int .i64 n, .slice ua un uc] 40) = w3 at *
  have d0 : w3.drew.cell? ⟨w2.heap.size, 0, none⟩ = some (.int .i64 n) := hX2.drew.cell 0 rfl
  have d1 : w3.drew.cell? ⟨w2.heap.size, 1, none⟩ = some (.slice ua un uc) := hX2.drew.cell 1 rfl
  have hSD := hid (hS2'.grown (w' := w3.drew) (row := none) ⟨rfl, rfl, rfl, Nat.le_refl _, fun _ _ _ => rfl⟩ (fun q hq => by simp at hq))
  have hC := hid (word_src (w.heap.size + 1 + 1) cv cs 44 n w3.drew hSD.out (by omega) (by omega) (by show w.heap.size + 1 + 1 < w3.heap.size; omega))
  have hP3 := hid hP2
  have hQ3 := hid hQ2
  have hX3 := hid hX2
  clear hP2 hQ2 hX2 hS2'
  go_region_law (refine step_call3 hC.out (fun _ => by kernel_rfl) rfl (.tmp 13) (.tmp 15) (.const (.int .i64 8)) rfl (by simp [Act.eval]) (by simp [Act.eval]) rfl ?_; rintro e w4 ⟨v, m, rfl, hv, hM, hS4, hG4⟩; refine ⟨_, rfl, ?_⟩; obtain ⟨va, vn, vc, rfl⟩ := own_lit' hv; have hX4 := hX3.out.drew.grG hG4 (by omega); have x0 := hX4.cell 0 rfl; have x1 := hX4.cell 1 rfl; have hP4 := hP3.out.drew.grG hG4 (by omega); have hQ4 := hQ3.out.drew.grG hG4 (by omega); have p0 := hP4.cell 0 rfl; have p1 := hP4.cell 1 rfl; have q0 := hQ4.cell 0 rfl; have q1 := hQ4.cell 1 rfl; have fp0 := hP4.frozen 0; have fp1 := hP4.frozen 1; have fq0 := hQ4.frozen 0; have fq1 := hQ4.frozen 1; clear hX4 hP4 hQ4)
  all_goals
    have hP4 := hP3.out.drew.grG hG4 (by omega)
    have hQ4 := hQ3.out.drew.grG hG4 (by omega)
    have hPF := (((hP4.set 0 (.int .i64 n)).set 1 (.slice ua un uc)).other (a := ⟨w.heap.size + 1, 0, none⟩) (by simp) (.int .i64 n)).other (a := ⟨w.heap.size + 1, 1, none⟩) (by simp) (.slice va vn vc)
    have hQF := (((hQ4.other (a := ⟨w.heap.size, 0, none⟩) (by simp) (.int .i64 n)).other (a := ⟨w.heap.size, 1, none⟩) (by simp) (.slice ua un uc)).set 0 (.int .i64 n)).set 1 (.slice va vn vc)
    have y0 := hPF.cell 0 rfl
    have y1 := hPF.cell 1 rfl
    have y2 := hQF.cell 0 rfl
    have y3 := hQF.cell 1 rfl
    have hu4 := hG4.own (hu2.out.drewN 1) (by omega)
    have hzD : w3.drew.heap.size = w3.heap.size := rfl
    have hz4 := hG4.size
    have huE := hid (((((hu4.mono (B' := w.heap.size + 1 + 1) (by omega)).set_block (g := w.heap.size) (by omega) 0 (.int .i64 n)).set_block (g := w.heap.size) (by omega) 1 (.slice ua un uc)).set_block (g := w.heap.size + 1) (by omega) 0 (.int .i64 n)).set_block (g := w.heap.size + 1) (by omega) 1 (.slice va vn vc))
    have hvE := hid (((((hv.mono (B' := w.heap.size + 1 + 1) (by omega)).set_block (g := w.heap.size) (by omega) 0 (.int .i64 n)).set_block (g := w.heap.size) (by omega) 1 (.slice ua un uc)).set_block (g := w.heap.size + 1) (by omega) 0 (.int .i64 n)).set_block (g := w.heap.size + 1) (by omega) 1 (.slice va vn vc))
    have hbE := hid ((((((hbA.out.drew).trans ((hG4.below (by omega)).mono (by omega))).setCell (p := ⟨w.heap.size, 0, none⟩) (Nat.le_refl _) (.int .i64 n)).setCell (p := ⟨w.heap.size, 1, none⟩) (Nat.le_refl _) (.slice ua un uc)).setCell (p := ⟨w.heap.size + 1, 0, none⟩) (by simp) (.int .i64 n)).setCell (p := ⟨w.heap.size + 1, 1, none⟩) (by simp) (.slice va vn vc))
    have hM' := hid hM
    clear hP4 hQ4 hPF hQF hu4 hv hG4 hS4 hM
    go_wp2_with fail
    refine bodyPost_ret (v := .tuple #[.agg #[.int .i64 n, .slice ua un uc], .agg #[.int .i64 n, .slice va vn vc]]) (by simp [y0, y1, y2, y3, results, Tryd.results39, go_sem]) rfl ⟨n, _, _, l, m, rfl, hn, huE.out.mono (by omega), hvE.out.mono (by omega), hW.out, hM'.out, hbE.out⟩


end Go.Proofs.YtkgdbobhppmaiaaDoor
