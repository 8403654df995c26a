/- Contracts: the braid of a normal form. -/
import Derived.Test.YtmeccemnmkobbaaReb
import Derived.Test.YtmeccemnmkobbaaRwc
import Derived.Test.YtmeccemnmkobbaaBre
import Derived.Test.YtmeccemnmkobbaaDel
import Derived.Test.YtmeccemnmkobbaaBrd
namespace Go.Proofs.Ytmeccemnmkobbaa
open Go.RowKit

def repW : Nat → List Int → List Int
  | 0, _ => []
  | k + 1, t => repW k t ++ t
def flatW (ls : List (List Int)) : Nat → List Int
  | 0 => []
  | k + 1 => flatW ls k ++ lettersF (rat ls k)
def halfW (n : Int) : List Int := lettersF (halfF n.toNat)
def wordN (n p : Int) (ls : List (List Int)) : List Int := repW p.toNat (halfW n) ++ repW (-p).toNat (invW (halfW n)) ++ flatW ls ls.length
theorem length_repW (k : Nat) (t : List Int) : (repW k t).length = k * t.length := by
  induction k with
  | zero => simp [repW]
  | succ k ih => rw [repW, List.length_append, ih, Nat.succ_mul]
theorem letters_small {l : List Int} (h : l.length ≤ 12) : (lettersF l).length ≤ 144 := by
  have h1 := redF_len l
  have h2 := invs_small h
  rw [length_lettersF]; omega
theorem flatW_len {ls : List (List Int)} (h : ∀ i, i < ls.length → (rat ls i).length ≤ 12) (k : Nat) (hk : k ≤ ls.length) : (flatW ls k).length ≤ k * 144 := by
  induction k with
  | zero => simp [flatW]
  | succ k ih =>
    have := ih (by omega)
    have := letters_small (h k (by omega))
    rw [flatW, List.length_append, Nat.succ_mul]; omega
theorem letters_bd (l : List Int) (i : Nat) (h : i < (lettersF l).length) : 1 ≤ nth (lettersF l) i ∧ nth (lettersF l) i < l.length := by
  rw [length_lettersF] at h
  have := redF_bd i h
  unfold lettersF
  rw [nth_map _ h]; omega
theorem halfW_bd {n : Int} (h : n ≤ 12) : ∀ i, i < (halfW n).length → -1000 ≤ nth (halfW n) i ∧ nth (halfW n) i ≤ 1000 := fun i hi => by
  have := letters_bd (halfF n.toNat) i hi
  rw [length_halfF] at this
  change -1000 ≤ nth (lettersF (halfF n.toNat)) i ∧ nth (lettersF (halfF n.toNat)) i ≤ 1000
  omega
theorem normB_of {n p : Int} {ls : List (List Int)} (h : normB n p ls = true) : 0 ≤ n ∧ n ≤ 12 ∧ -100 ≤ p ∧ p ≤ 100 ∧ ls.length ≤ 100 ∧ (2 ≤ n ∨ p = 0) ∧ ∀ i, i < ls.length → facOk n ls i = true := by
  unfold normB at h
  simp only [Bool.and_eq_true, decide_eq_true_eq, List.all_eq_true, List.mem_range, Bool.or_eq_true, beq_iff_eq] at h
  obtain ⟨⟨⟨⟨h1, h2⟩, h3⟩, h4⟩, h5⟩ := h
  have a := inB_yes' h1
  have b := inB_yes' h2
  exact ⟨a.1, a.2, b.1, b.2, h3, h4, h5⟩
theorem normB_row {n p : Int} {ls : List (List Int)} (h : normB n p ls = true) (i : Nat) (hi : i < ls.length) : (rat ls i).length ≤ 12 := by
  have h1 := normB_of h
  have := (facOk_of (h1.2.2.2.2.2.2 i hi)).1
  omega
def codeBN (n p : Int) (ls : List (List Int)) : Int := if normB n p ls then (if (wordN n p ls).length ≤ 40 then 0 else 5) else 1
def nBN (n p : Int) (ls : List (List Int)) : Int := if codeBN n p ls = 0 then n else 0
def lBN (n p : Int) (ls : List (List Int)) : List Int := if codeBN n p ls = 0 then wordN n p ls else []

/-- a word o that grows in its own memory, and a word T that is put behind it -/
structure WT (w wr : World) (C B : Nat) (o T : Value) (xs ys : List Int) : Prop where
  own : Own wr B 2 o (ints xs)
  tw : Reads wr T (ints ys)
  ap : ∀ k, blk T = some k → blk o ≠ some k ∧ k < wr.heap.size
  bel : Below C w wr
  cb : C ≤ B
  sz : B ≤ wr.heap.size
theorem WT.next {w wr w' : World} {C B : Nat} {o T : Value} {xs ys : List Int} (h : WT w wr C B o T xs ys) (hb : Below wr.heap.size wr w') : WT w w' C B o T xs ys :=
  ⟨h.own.below hb, h.tw.below hb, fun k hk => ⟨(h.ap k hk).1, by have := (h.ap k hk).2; have := hb.size; omega⟩, h.bel.trans (hb.mono (by have := h.sz; have := h.cb; omega)), h.cb, by have := h.sz; have := hb.size; omega⟩
theorem WT.app {w wr : World} {C B : Nat} {o T u : Value} {xs ys zs : List Int} (h : WT w wr C B o T xs ys) (hu : Reads wr u (ints zs)) (hl : xs.length + zs.length ≤ 1048576) :
    ∃ v' w', (Builtin.append_ #[32, 32] 32 #[o, u]).run Try.prog wr = .ok v' w' ∧ WT w w' C B v' T (xs ++ zs) ys ∧ wr.grownBy w' (blk o) := by
  have hB := h.sz
  obtain ⟨v', w', hr, ho, hg, hst⟩ := app_runF (T := 32) (ty := 32) (xs := ints xs) (ys := ints zs) sliceI infoI rfl h.own hu (oneCell_ints zs) hB (by simp; omega) (by decide)
  refine ⟨v', w', hr, ⟨by simpa [ints] using ho, h.tw.grown hg fun k hk => (h.ap k hk).1, fun k hk => ⟨fun e => ?_, ?_⟩, h.bel.grown hg (by have := h.cb; omega) fun k hk => by have := (h.own.blk_lt hk).1; have := h.cb; omega, h.cb, by have := hg.size; omega⟩, hg⟩
  · rcases hst k e with h1 | h1
    · exact (h.ap k hk).1 h1
    · have := (h.ap k hk).2; omega
  · have := (h.ap k hk).2; have := hg.size; omega
theorem WT.set {w wr : World} {C B g : Nat} {o T : Value} {xs ys : List Int} (h : WT w wr C B o T xs ys) (h1 : C ≤ g) (h2 : g < B) (h3 : blk T ≠ some g) (i : Nat) (x : Value) : WT w (wr.setCell ⟨g, i, none⟩ x) C B o T xs ys :=
  ⟨h.own.set_block h2 i x, h.tw.keep fun k hk _ => Below.heap_setCell _ _ _ _ (fun e => h3 (by rw [hk]; simp at e; rw [e])), fun k hk => ⟨(h.ap k hk).1, by simpa [World.setCell] using (h.ap k hk).2⟩, h.bel.setCell h1 x, h.cb, by simpa [World.setCell] using h.sz⟩


set_option maxRecDepth 100000 in
set_option maxHeartbeats 8000000 in
theorem vbn_spec (n p : Int) (v : Value) (ls : List (List Int)) (w : World) (h : ReadsII w v ls) :
    Calls Try.prog 36 #[.agg #[.int .i64 n, .int .i64 p, v]] w fun e w' => ∃ x, e = .returned (.tuple #[.agg #[.int .i64 (nBN n p ls), x], .int .i64 (codeBN n p ls)]) ∧ Own w' w.heap.size 2 x (ints (lBN n p ls)) ∧ Below w.heap.size w w' := by
  obtain ⟨vs, hv0, hvr0⟩ := (h.alloc (.cells #[.int .i64 n, .int .i64 p, v] 27)).alloc (.cells #[.int .i64 0, .slice none 0 0] 35)
  have hA0 := (Bx.new w #[.int .i64 n, .int .i64 p, v] 27).alloc (.cells #[.int .i64 0, .slice none 0 0] 35)
  have hR0 := Bx.new (w.alloc (.cells #[.int .i64 n, .int .i64 p, v] 27)) #[.int .i64 0, .slice none 0 0] 35
  have hb0 : Below w.heap.size w ((w.alloc (.cells #[.int .i64 n, .int .i64 p, v] 27)).alloc (.cells #[.int .i64 0, .slice none 0 0] 35)) := ((Below.refl _ _).alloc (Nat.le_refl _) _).alloc (by simp) _
  have hsz0 : ((w.alloc (.cells #[.int .i64 n, .int .i64 p, v] 27)).alloc (.cells #[.int .i64 0, .slice none 0 0] 35)).heap.size = w.heap.size + 1 + 1 := by simp
  simp only [World.size_alloc] at hR0
  go_enter Try.func36, Try.ntmps36
  go_wp2_with fail
  generalize ((w.alloc (.cells #[.int .i64 n, .int .i64 p, v] 27)).alloc (.cells #[.int .i64 0, .slice none 0 0] 35)) = w0 at *
  refine (l04ok_spec w.heap.size n p v vs ls w0 hA0 hv0 hvr0).mono ?_
  rintro e w1 ⟨rfl, hs1⟩
  have hsz1 := hs1.size
  have hA1 := hA0.below hs1
  have hR1 := hR0.below hs1
  have hv1 := hv0.below hs1
  have hvr1 := hvr0.below hs1
  have hb1 := hb0.trans (hs1.mono hb0.size)
  clear hs1 hA0 hR0 hb0 hv0 hvr0 h
  have A0 := hA1.cell 0 rfl
  cases e1 : normB n p ls with
  | false =>
    have hcode : codeBN n p ls = 1 := by unfold codeBN; rw [e1]; rfl
    have R0 := hR1.cell 0 rfl
    have R1 := hR1.cell 1 rfl
    have F0 := hR1.frozen 0
    have F1 := hR1.frozen 1
    have g5 := (hR1.set 0 (.int .i64 0)).set 1 (.slice none 0 0)
    have g0 := g5.cell 0 rfl
    have g1 := g5.cell 1 rfl
    go_wp2_with fail
    refine bodyPost_ret (v := .tuple #[.agg #[.int .i64 0, .slice none 0 0], .int .i64 1]) (by simp [g0, g1, results, Try.results36, go_sem]) rfl ⟨_, by unfold nBN; rw [hcode]; rfl, by unfold lBN; rw [hcode]; exact own_nil _ _ _, (hb1.setCell (by simp) _).setCell (by simp) _⟩
  | true =>
  have q := normB_of e1
  obtain ⟨q0, q1, q2, q3, q4, q5, q6⟩ := q
  have hrow := hid (normB_row e1)
  have hwl := hid (flatW_len hrow.out)
  replace e1 := hid e1
  replace q6 := hid q6
  have hvl := hvr1.len
  have hhl : (halfF n.toNat).length ≤ 12 := by rw [length_halfF]; omega
  have htl : (halfW n).length ≤ 144 := letters_small hhl
  have hr1 := length_repW p.toNat (halfW n)
  have hr2 := length_repW (-p).toNat (invW (halfW n))
  rw [length_invW] at hr2
  have hm1 := Nat.mul_le_mul (show p.toNat ≤ 100 by omega) htl
  have hm2 := Nat.mul_le_mul (show (-p).toNat ≤ 100 by omega) htl
  have hA1' := hid hA1
  replace hR1 := hid hR1
  replace hb1 := hid hb1
  replace hv1 := hid hv1
  replace hvr1 := hid hvr1
  have hA2 := hA1.alloc (.cells #[] 2)
  have ho2 := own_empty w1 2 (Nat.le_refl w1.heap.size)
  have hb2 : Below w1.heap.size w1 (w1.alloc (.cells #[] 2)) := (Below.refl _ _).alloc (Nat.le_refl _) _
  have hz2 : (w1.alloc (.cells #[] 2)).heap.size = w1.heap.size + 1 := by simp
  have C0 := hA2.cell 0 rfl
  clear A0 hA1
  go_wp2_with fail
  generalize hoe : Value.slice (some ⟨w1.heap.size, 0, none⟩) 0 0 = o0 at *
  generalize w1.alloc (.cells #[] 2) = w2 at *
  refine (half_spec n _ (by omega) (by omega)).mono ?_
  rintro e w3 ⟨y, rfl, hy, hs3⟩
  have hz3 := hs3.size
  have hA3 := hA2.below hs3
  have ho3 := ho2.below hs3
  have hb3 := hb2.trans (hs3.mono (by omega))
  clear hA2 ho2 hb2 C0 hs3
  go_wp2_with fail
  refine (word_spec4 y (halfF n.toNat) w3 hy.reads (by omega) (by have := invs_small hhl; omega)).mono ?_
  rintro e w4 ⟨T, rfl, hT, hs4⟩
  have hz4 := hs4.size
  have hA4 := hA3.below hs4
  have hW0 : WT w1 w4 w1.heap.size w1.heap.size o0 T [] (halfW n) := ⟨ho3.below hs4, hT.reads, fun k hk => ⟨fun e => by have := hT.blk_lt hk; have := ho3.blk_lt e; omega, (hT.blk_lt hk).2⟩, hb3.trans (hs4.mono (by omega)), Nat.le_refl _, by omega⟩
  clear hA3 ho3 hb3 hs4 hT hy hoe
  go_wp2_with fail
  go_loopw [4, 6] (fun o i wr => ∃ k : Nat, k ≤ p.toNat ∧ i = .int .i64 k ∧ WT w1 wr w1.heap.size w1.heap.size o T (repW k (halfW n)) (halfW n)) (fun _ i _ => p.toNat - (intOf i).toNat)
  case atStart => exact ⟨0, by omega, rfl, hW0⟩
  case round =>
    clear hW0
    obtain ⟨k, hk, rfl, hW⟩ := hrel
    have hX := hA1'.out.keep (hW.bel.block _ (by omega))
    have A1 := hX.cell 1 rfl
    by_cases hlt : (k : Int) < p
    case pos =>
      have hkl := length_repW k (halfW n)
      have hkm := Nat.mul_le_mul (show k ≤ 100 by omega) htl
      obtain ⟨v', w', hrun, hW', -⟩ := hW.app hW.tw (by omega)
      clear hW hX
      go_wp2_with (at_builtin; refine wpList_app hrun rfl _ _ rfl rfl rfl ?_)
      go_roundw
      case rel => exact ⟨k + 1, by omega, by go_num, hW'⟩
      case measure => simp [intOf]; omega
    case neg =>
    obtain rfl : k = p.toNat := by omega
    replace hW := hid hW
    clear hX
    go_wp2_with fail
    go_loopw [4, 7] (fun o i wr => ∃ k : Nat, k ≤ (-p).toNat ∧ i = .int .i64 (-(k : Int)) ∧ WT w1 wr w1.heap.size w1.heap.size o T (repW p.toNat (halfW n) ++ repW k (invW (halfW n))) (halfW n)) (fun _ i _ => (-p).toNat - (-(intOf i)).toNat)
    case atStart => exact ⟨0, by omega, rfl, by have := hW.out; simpa [repW] using this⟩
    case round =>
      clear hW
      obtain ⟨k, hk, rfl, hW⟩ := hrel
      have hX := hA1'.out.keep (hW.bel.block _ (by omega))
      have A1 := hX.cell 1 rfl
      by_cases hlt : p < -(k : Int)
      case pos =>
        have hkl := length_repW k (invW (halfW n))
        rw [length_invW] at hkl
        have hkm := Nat.mul_le_mul (show k ≤ 100 by omega) htl
        go_wp2_with fail
        refine (inv_spec' T (halfW n) wr hW.tw (by omega) (halfW_bd (by omega))).mono ?_
        rintro e w5 ⟨u, rfl, hu, hs5⟩
        obtain ⟨v', w', hrun, hW', -⟩ := (hW.next hs5).app hu.reads (by rw [length_invW, List.length_append]; omega)
        clear hW hX hu hs5
        go_wp2_with (at_builtin; refine wpList_app hrun rfl _ _ rfl rfl rfl ?_)
        go_roundw
        case rel => exact ⟨k + 1, by omega, by go_num, by rw [List.append_assoc] at hW'; exact hW'⟩
        case measure => simp [intOf] <;> omega
      case neg =>
      obtain rfl : k = (-p).toNat := by omega
      replace hW := hid hW
      clear hX
      go_wp2_with fail
      go_loopw [4, 8] (fun o i wr => ∃ j : Nat, j ≤ ls.length ∧ i = .int .i64 j ∧ WT w1 wr w1.heap.size w1.heap.size o T (repW p.toNat (halfW n) ++ repW (-p).toNat (invW (halfW n)) ++ flatW ls j) (halfW n)) (fun _ i _ => ls.length - (intOf i).toNat)
      case atStart => exact ⟨0, by omega, rfl, by have := hW.out; simpa [flatW] using this⟩
      case round =>
        clear hW
        obtain ⟨j, hj, rfl, hW⟩ := hrel
        have hX := hA1'.out.keep (hW.bel.block _ (by omega))
        have A2 := hX.cell 2 rfl
        have hfl := hwl.out j hj
        have hln := hv1.out.len (P := Try.prog) 22 3 ⟨_, sliceII⟩
        rw [hvl] at hln
        by_cases hlt : j < ls.length
        case pos =>
          have hi := hv1.out.idx 22 sliceII sizeSI .i64 j (by omega) (by rw [hvl]; omega)
          simp only [Int.toNat_natCast] at hi
          have hc := (hv1.out.below hW.bel).cell j _ (vat_of (by omega))
          have hrw := (hvr1.out.row j hlt).below hW.bel
          have hr12 := hrow.out j hlt
          have hll := letters_small hr12
          go_wp2_with fail
          refine (word_spec4 _ (rat ls j) wr hrw (by omega) (by have := invs_small hr12; omega)).mono ?_
          rintro e w5 ⟨u, rfl, hu, hs5⟩
          obtain ⟨v', w', hrun, hW', -⟩ := (hW.next hs5).app hu.reads (by rw [List.length_append, List.length_append]; omega)
          clear hW hX hu hs5 hrw hc
          go_wp2_with (at_builtin; refine wpList_app hrun rfl _ _ rfl rfl rfl ?_)
          go_roundw
          case rel => exact ⟨j + 1, by omega, by go_num, by rw [List.append_assoc] at hW'; exact hW'⟩
          case measure => simp [intOf]; omega
        case neg =>
          obtain rfl : j = ls.length := by omega
          have hwe : repW p.toNat (halfW n) ++ repW (-p).toNat (invW (halfW n)) ++ flatW ls ls.length = wordN n p ls := rfl
          rw [hwe] at hW
          have hbt : Below w.heap.size w wr := hb1.out.trans (hW.bel.mono (by omega))
          have hR := hR1.out.keep (hW.bel.block _ (by omega))
          have A0 := hX.cell 0 rfl
          have R0 := hR.cell 0 rfl
          have R1 := hR.cell 1 rfl
          have F0 := hR.frozen 0
          have F1 := hR.frozen 1
          have hlw := hW.own.reads.len (P := Try.prog) 32 3 ⟨_, sliceI⟩
          rw [length_ints] at hlw
          obtain ⟨oa, on, oc, rfl⟩ : ∃ a m c, u4 = Value.slice a m c := by obtain ⟨a, c, e⟩ := hW.own.form3'; exact ⟨a, _, c, e⟩
          by_cases h40 : (wordN n p ls).length ≤ 40
          · have hcode : codeBN n p ls = 0 := by unfold codeBN; rw [e1.out, if_pos rfl, if_pos h40]
            have h40' : ¬ (40 : Int) < ((wordN n p ls).length : Int) := by omega
            have g5 := (hR.set 0 (.int .i64 n)).set 1 (.slice oa on oc)
            have g0 := g5.cell 0 rfl
            have g1 := g5.cell 1 rfl
            have hE := hid (((hW.own.mono (B' := w.heap.size + 1 + 1) (by omega)).set_block (g := w.heap.size + 1) (by omega) 0 (.int .i64 n)).set_block (g := w.heap.size + 1) (by omega) 1 (.slice oa on oc))
            have hbt' := hid hbt
            clear hW hX hR g5 hbt h40
            go_wp2_with fail
            refine bodyPost_ret (v := .tuple #[.agg #[.int .i64 n, .slice oa on oc], .int .i64 0]) (by simp [g0, g1, results, Try.results36, go_sem]) rfl ⟨_, by unfold nBN; rw [hcode]; rfl, by unfold lBN; rw [hcode]; exact hE.out.mono (by omega), (hbt'.out.setCell (by simp) _).setCell (by simp) _⟩
          · have hcode : codeBN n p ls = 5 := by unfold codeBN; rw [e1.out, if_pos rfl, if_neg h40]
            have h40' : (40 : Int) < ((wordN n p ls).length : Int) := by omega
            have g5 := (hR.set 0 (.int .i64 0)).set 1 (.slice none 0 0)
            have g0 := g5.cell 0 rfl
            have g1 := g5.cell 1 rfl
            have hbt' := hid hbt
            clear hW hX hR g5 hbt h40
            go_wp2_with fail
            refine bodyPost_ret (v := .tuple #[.agg #[.int .i64 0, .slice none 0 0], .int .i64 5]) (by simp [g0, g1, results, Try.results36, go_sem]) rfl ⟨_, by unfold nBN; rw [hcode]; rfl, by unfold lBN; rw [hcode]; exact own_nil _ _ _, (hbt'.out.setCell (by simp) _).setCell (by simp) _⟩


set_option maxRecDepth 100000 in
set_option maxHeartbeats 8000000 in
theorem vbn_impl (n p : Int) (v : Value) (ls : List (List Int)) (w : World) (h : ReadsII w v ls) :
    Calls Try.prog 37 #[.agg #[.int .i64 n, .int .i64 p, v]] w fun e w' => ∃ x, e = .returned (.tuple #[.agg #[.int .i64 (nBN n p ls), x], .int .i64 (codeBN n p ls)]) ∧ Own w' w.heap.size 2 x (ints (lBN n p ls)) ∧ Below w.heap.size w w' := by
  have h0 := (h.alloc (.cells #[.int .i64 n, .int .i64 p, v] 27)).alloc (.cells #[.int .i64 0, .slice none 0 0] 35)
  have hA0 := (Bx.new w #[.int .i64 n, .int .i64 p, v] 27).alloc (.cells #[.int .i64 0, .slice none 0 0] 35)
  have hR0 := Bx.new (w.alloc (.cells #[.int .i64 n, .int .i64 p, v] 27)) #[.int .i64 0, .slice none 0 0] 35
  have hb0 : Below w.heap.size w ((w.alloc (.cells #[.int .i64 n, .int .i64 p, v] 27)).alloc (.cells #[.int .i64 0, .slice none 0 0] 35)) := ((Below.refl _ _).alloc (Nat.le_refl _) _).alloc (by simp) _
  have hsz0 : ((w.alloc (.cells #[.int .i64 n, .int .i64 p, v] 27)).alloc (.cells #[.int .i64 0, .slice none 0 0] 35)).heap.size = w.heap.size + 1 + 1 := by simp
  simp only [World.size_alloc] at hR0
  go_enter Try.func37, Try.ntmps37
  go_wp2_with fail
  generalize ((w.alloc (.cells #[.int .i64 n, .int .i64 p, v] 27)).alloc (.cells #[.int .i64 0, .slice none 0 0] 35)) = w0 at *
  have A0 := hA0.cell 0 rfl
  have A1 := hA0.cell 1 rfl
  have A2 := hA0.cell 2 rfl
  go_wp2_with fail
  refine (vn_impl n p v ls w0 h0).mono ?_
  clear A0 A1 A2
  rintro e w1 ⟨rfl, hs1⟩
  have hsz1 := hs1.size
  have hA1 := hA0.below hs1
  have hR1 := hR0.below hs1
  obtain ⟨vs, hv1, hvr1⟩ := h0.below hs1
  have hb1 := hb0.trans (hs1.mono hb0.size)
  clear hs1 hA0 hR0 hb0 h0 h
  have A0 := hA1.cell 0 rfl
  have A1 := hA1.cell 1 rfl
  cases e1 : normB n p ls with
  | false =>
    have hcode : codeBN n p ls = 1 := by unfold codeBN; rw [e1]; rfl
    have R0 := hR1.cell 0 rfl
    have R1 := hR1.cell 1 rfl
    have F0 := hR1.frozen 0
    have F1 := hR1.frozen 1
    have g5 := (hR1.set 0 (.int .i64 0)).set 1 (.slice none 0 0)
    have g0 := g5.cell 0 rfl
    have g1 := g5.cell 1 rfl
    go_wp2_with fail
    refine bodyPost_ret (v := .tuple #[.agg #[.int .i64 0, .slice none 0 0], .int .i64 1]) (by simp [g0, g1, results, Try.results37, go_sem]) rfl ⟨_, by unfold nBN; rw [hcode]; rfl, by unfold lBN; rw [hcode]; exact own_nil _ _ _, (hb1.setCell (by simp) _).setCell (by simp) _⟩
  | true =>
  have q := normB_of e1
  obtain ⟨q0, q1, q2, q3, q4, q5, q6⟩ := q
  have hrow := hid (normB_row e1)
  have hwl := hid (flatW_len hrow.out)
  replace e1 := hid e1
  replace q6 := hid q6
  have hvl := hvr1.len
  have hhl : (halfF n.toNat).length ≤ 12 := by rw [length_halfF]; omega
  have htl : (halfW n).length ≤ 144 := letters_small hhl
  have hrl : (redF (halfF n.toNat)).length ≤ 144 := by have := letters_small hhl; rwa [length_lettersF] at this
  have hA1' := hid hA1
  replace hR1 := hid hR1
  replace hb1 := hid hb1
  replace hv1 := hid hv1
  replace hvr1 := hid hvr1
  go_wp2_with fail
  refine (half_impl n _ (by omega) (by omega)).mono ?_
  rintro e w3 ⟨y, rfl, hy, hs3⟩
  have hz3 := hs3.size
  replace hs3 := hid hs3
  clear hA1 A0 A1
  go_wp2_with fail
  refine (letters_impl4 y (halfF n.toNat) w3 hy.reads (by omega) (by have := invs_small hhl; omega) (by omega) (fun i hi => by have := redF_bd i hi; omega)).mono ?_
  rintro e w4 ⟨T, rfl, hT, hs4⟩
  have hz4 := hs4.size
  have hb4 := hid (hs3.out.trans (hs4.mono hz3))
  clear hs4 hy hs3
  have A0 := (hA1'.out.below hb4.out).cell 0 rfl
  have A1 := (hA1'.out.below hb4.out).cell 1 rfl
  have hxs : ∃ (ys : List Int) (K : Nat), ys = (if p < 0 then invW (halfW n) else halfW n) ∧ K = p.natAbs := ⟨_, _, rfl, rfl⟩
  obtain ⟨ys, K, hys, hK⟩ := hxs
  have hyl : ys.length ≤ 144 := by rw [hys]; split <;> (first | (rw [length_invW]; omega) | omega)
  have hwe : wordN n p ls = repW K ys ++ flatW ls ls.length := by
    unfold wordN
    by_cases hp : p < 0
    · rw [hys, if_pos hp, hK, show p.toNat = 0 by omega, show (-p).toNat = p.natAbs by omega]; rfl
    · rw [hys, if_neg hp, hK, show (-p).toNat = 0 by omega, show p.toNat = p.natAbs by omega]; simp [repW]
  replace hwe := hid hwe
  have hKp : absI p = (K : Int) := by unfold absI; split <;> omega
  have hKl : K ≤ 100 := by omega
  clear hK
  by_cases hp : p < 0
  case' pos =>
    rw [if_pos hp] at hys
    go_wp2_with fail
    refine (inv_impl' T (halfW n) w4 hT.reads (by omega) (halfW_bd q1)).mono ?_
    rintro e w5 ⟨u, rfl, hu, hs5⟩
    rw [← hys] at hu
    have hb5 := hid (hb4.out.trans (hs5.mono (by omega)))
    have hlo5 : w1.heap.size ≤ w5.heap.size := hb5.out.size
    have A0 := (hA1'.out.below hb5.out).cell 0 rfl
    have A1 := (hA1'.out.below hb5.out).cell 1 rfl
    clear hT hs5
  case' neg =>
    rw [if_neg hp] at hys
    obtain ⟨u, w5, hu, hb5, hlo5, hue, hwe5⟩ : ∃ u w5, Own w4 w3.heap.size 2 u (ints ys) ∧ Hid (Below w1.heap.size w1 w4) ∧ w1.heap.size ≤ w5.heap.size ∧ u = T ∧ w5 = w4 := ⟨T, w4, by rw [hys]; exact hT, hb4, by omega, rfl, rfl⟩
    subst hue hwe5
    clear hT
  all_goals
    have hX5 := (hA1'.out.below hb5.out).alloc (.cells #[.int .i64 n, .slice none 0 0] 35)
    have hN5 := Bx.new w5 #[.int .i64 n, .slice none 0 0] 35
    have B1 := hX5.cell 1 rfl
    have hW0 : WT w5 (w5.alloc (.cells #[.int .i64 n, .slice none 0 0] 35)) w5.heap.size (w5.heap.size + 1) (.slice none 0 0) u [] ys := ⟨Own.nilv _ _ _, reads_alloc hu.reads _, fun k hk => ⟨by simp [blk], by have := (hu.blk_lt hk).2; simp; omega⟩, (Below.refl _ _).alloc (Nat.le_refl _) _, by omega, by simp⟩
    have hug : blk u ≠ some w5.heap.size := fun e => by have := (hu.blk_lt e).2; omega
    have hsz5 : (w5.alloc (.cells #[.int .i64 n, .slice none 0 0] 35)).heap.size = w5.heap.size + 1 := by simp
    replace hW0 := hid hW0
    replace hN5 := hid hN5
    replace hX5 := hid hX5
    replace hug := hid hug
    clear hu hys
    go_wp2_with fail
    refine (size_impl p _ (by omega)).mono ?_
    rintro e w6 ⟨rfl, rfl⟩
    rw [hKp]
    go_wp2_with fail
    clear B1
    generalize hWX : w5.alloc (.cells #[.int .i64 n, .slice none 0 0] 35) = wX at *
    clear hWX
    go_loopw [27] (fun i wr => ∃ (k : Nat) (o : Value), k ≤ K ∧ i = .int .i64 k ∧ WT w5 wr w5.heap.size (w5.heap.size + 1) o u (repW k ys) ys ∧ Bx wr w5.heap.size [.int .i64 n, o]) (fun i _ => K - (intOf i).toNat)
    case atStart => exact ⟨0, _, by omega, rfl, hW0.out, hN5.out⟩
    case round =>
      clear hW0 hN5 hX5
      obtain ⟨k, o, hk, rfl, hW, hN⟩ := hrel
      by_cases hlt : k < K
      case pos =>
        have hkl := length_repW k ys
        have hkm := Nat.mul_le_mul (show k ≤ 100 by omega) hyl
        have N1 := hN.cell 1 rfl
        obtain ⟨v', w', hrun, hW', hgr⟩ := hW.app hW.tw (by omega)
        have hN' := hN.grown hgr (fun e => by have := (hW.own.blk_lt e).1; omega)
        obtain ⟨va, vn, vc, rfl⟩ : ∃ a m c, v' = Value.slice a m c := by obtain ⟨a, c, e⟩ := hW'.own.form3'; exact ⟨a, _, c, e⟩
        have M1 := hN'.cell 1 rfl
        have M2 := hN'.frozen 1
        have hW2 := hid (hW'.set (g := w5.heap.size) (Nat.le_refl _) (by omega) hug.out 1 (.slice va vn vc))
        have hN2 := hid (hN'.set 1 (.slice va vn vc))
        clear hW hN hW' hN' hgr
        go_wp2_with (at_builtin; refine wpList_app hrun rfl _ _ rfl rfl rfl ?_)
        go_roundw
        case rel => exact ⟨k + 1, _, by omega, by go_num, hW2.out, hN2.out⟩
        case measure => simp [intOf]; omega
      case neg =>
      obtain rfl : k = K := by omega
      have hX := (hA1'.out.below hb5.out).keep (hW.bel.block _ (by omega))
      have A2 := hX.cell 2 rfl
      have hln := hv1.out.len (P := Try.prog) 22 3 ⟨_, sliceII⟩
      rw [hvl] at hln
      replace hW := hid hW
      replace hN := hid hN
      clear hX
      go_wp2_with fail
      go_loopw [7, 38] (fun _ i wr => ∃ (j : Nat) (o : Value), j ≤ ls.length ∧ i = .int .i64 j ∧ WT w5 wr w5.heap.size (w5.heap.size + 1) o u (repW k ys ++ flatW ls j) ys ∧ Bx wr w5.heap.size [.int .i64 n, o]) (fun _ i _ => ls.length - (intOf i).toNat)
      case atStart => exact ⟨0, o, by omega, rfl, by have := hW.out; simpa [flatW] using this, hN.out⟩
      case round =>
        clear hW hN A2
        obtain ⟨j, o, hj, rfl, hW, hN⟩ := hrel
        have hfl := hwl.out j hj
        have hbw : Below w1.heap.size w1 wr := hb5.out.trans (hW.bel.mono hlo5)
        by_cases hlt : j < ls.length
        case pos =>
          have hi := hv1.out.idx 22 sliceII sizeSI .i64 j (by omega) (by rw [hvl]; omega)
          simp only [Int.toNat_natCast] at hi
          have hc := (hv1.out.below hbw).cell j _ (vat_of (by omega))
          have hrw := hid (fun (w' : World) (hw : Below wr.heap.size wr w') => ((hvr1.out.row j hlt).below hbw).below hw)
          have hr12 := hrow.out j hlt
          have hll := letters_small hr12
          have hrl2 : (redF (rat ls j)).length ≤ 144 := by rwa [length_lettersF] at hll
          have hC := hid (fun (w' : World) (hw : Below wr.heap.size wr w') => letters_impl4 _ (rat ls j) w' (hrw.out w' hw) (by omega) (by have := invs_small hr12; omega) (by omega) (fun i hi => by have := redF_bd i hi; omega))
          have hkl := length_repW k ys
          have hkm := Nat.mul_le_mul (show k ≤ 100 by omega) hyl
          have N1 := hN.drew.cell 1 rfl
          have hbD := hid ((Below.refl wr.heap.size wr).drew)
          have hW' := hid hW
          have hN' := hid hN
          have hdz : wr.drew.heap.size = wr.heap.size := rfl
          clear hW hN hbw
          go_wp2_with fail
          go_region_law ((first | (refine step_call (hC.out _ hbD.out) (fun _ => by kernel_rfl) rfl (.tmp 44) rfl (by simp [Act.eval, Act.put]) ?_; rintro e w7 ⟨x, rfl, hx, hs7⟩; refine ⟨_, rfl, ?_⟩; have hbS : Below wr.heap.size wr w7 := hbD.out.trans hs7; obtain ⟨v', w8, hrun, hW8, hg8⟩ := (hW'.out.next hbS).app hx.reads (by rw [List.length_append]; omega); have hN7 := hN'.out.below hbS; have hN8 := hN7.grown hg8 (fun e => by have := (hW'.out.own.blk_lt e).1; omega); obtain ⟨va, vn, vc, rfl⟩ : ∃ a m c, v' = Value.slice a m c := (by obtain ⟨a, c, e⟩ := hW8.own.form3'; exact ⟨a, _, c, e⟩); have N7 := hN7.cell 1 rfl; have N8 := hN8.cell 1 rfl; have M8 := hN8.frozen 1) | (refine step_app hrun rfl (.tmp 43) (.tmp 45) rfl (by simp [Act.eval]) (by simp [Act.eval]) ?_)))
          all_goals
            have hW2 := hid (hW8.set (g := w5.heap.size) (Nat.le_refl _) (by omega) hug.out 1 (.slice va vn vc))
            have hN2 := hid (hN8.set 1 (.slice va vn vc))
            clear hW' hN' hrw hC hbD hW8 hN8 hN7 hg8 hx hs7 hbS
            go_wp2_with fail
            go_roundw
            case rel => exact ⟨j + 1, _, by omega, by go_num, by have := hW2.out; rw [List.append_assoc] at this; exact this, hN2.out⟩
            case measure => simp [intOf]; omega
        case neg =>
          obtain rfl : j = ls.length := by omega
          rw [← hwe.out] at hW
          have hbt : Below w.heap.size w wr := hb1.out.trans (hbw.mono (by omega))
          have hR := hR1.out.below hbw
          have R0 := hR.cell 0 rfl
          have R1 := hR.cell 1 rfl
          have F0 := hR.frozen 0
          have F1 := hR.frozen 1
          have N0 := hN.cell 0 rfl
          have N1 := hN.cell 1 rfl
          have hlw := hW.own.reads.len (P := Try.prog) 32 3 ⟨_, sliceI⟩
          rw [length_ints] at hlw
          obtain ⟨oa, on, oc, rfl⟩ : ∃ a m c, o = Value.slice a m c := by obtain ⟨a, c, e⟩ := hW.own.form3'; exact ⟨a, _, c, e⟩
          by_cases h40 : (wordN n p ls).length ≤ 40
          · have hcode : codeBN n p ls = 0 := by unfold codeBN; rw [e1.out, if_pos rfl, if_pos h40]
            have h40' : ¬ (40 : Int) < ((wordN n p ls).length : Int) := by omega
            have g5 := (hR.set 0 (.int .i64 n)).set 1 (.slice oa on oc)
            have g0 := g5.cell 0 rfl
            have g1 := g5.cell 1 rfl
            have hE := hid (((hW.own.mono (B' := w.heap.size + 1 + 1) (by omega)).set_block (g := w.heap.size + 1) (by omega) 0 (.int .i64 n)).set_block (g := w.heap.size + 1) (by omega) 1 (.slice oa on oc))
            have hbt' := hid hbt
            clear hW hR g5 hbt h40 hN hbw
            go_wp2_with fail
            refine bodyPost_ret (v := .tuple #[.agg #[.int .i64 n, .slice oa on oc], .int .i64 0]) (by simp [g0, g1, results, Try.results37, go_sem]) rfl ⟨_, by unfold nBN; rw [hcode]; rfl, by unfold lBN; rw [hcode]; exact hE.out.mono (by omega), (hbt'.out.setCell (by simp) _).setCell (by simp) _⟩
          · have hcode : codeBN n p ls = 5 := by unfold codeBN; rw [e1.out, if_pos rfl, if_neg h40]
            have h40' : (40 : Int) < ((wordN n p ls).length : Int) := by omega
            have g5 := (hR.set 0 (.int .i64 0)).set 1 (.slice none 0 0)
            have g0 := g5.cell 0 rfl
            have g1 := g5.cell 1 rfl
            have hbt' := hid hbt
            clear hW hR g5 hbt h40 hN hbw
            go_wp2_with fail
            refine bodyPost_ret (v := .tuple #[.agg #[.int .i64 0, .slice none 0 0], .int .i64 5]) (by simp [g0, g1, results, Try.results37, go_sem]) rfl ⟨_, by unfold nBN; rw [hcode]; rfl, by unfold lBN; rw [hcode]; exact own_nil _ _ _, (hbt'.out.setCell (by simp) _).setCell (by simp) _⟩


end Go.Proofs.Ytmeccemnmkobbaa
