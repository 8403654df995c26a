/- Results that are only read: slices of slices in an interval of blocks; and normal forms of the call's own. Plain laws of memory. -/
import Derived.Test.YtmeccemnmkobbaaRel
namespace Go.Proofs.Ytmeccemnmkobbaa
open Go.RowKit
open Pm

/-- v reads as rows of numbers, all of it in blocks from lo on and below hi -/
structure RdR (w : World) (lo hi : Nat) (v : Value) (vs : List Value) (ls : List (List Int)) : Prop where
  rd : Reads w v vs
  rows : RowsR w vs ls
  out : ∀ k, blk v = some k → lo ≤ k ∧ k < hi
  inn : ∀ i, i < ls.length → ∀ k, blk (vat vs i) = some k → lo ≤ k ∧ k < hi
def RdII (w : World) (lo hi : Nat) (v : Value) (ls : List (List Int)) : Prop := ∃ vs, RdR w lo hi v vs ls
theorem RdII.reads {w : World} {lo hi : Nat} {v : Value} {ls : List (List Int)} (h : RdII w lo hi v ls) : ReadsII w v ls := by
  obtain ⟨vs, h⟩ := h
  exact ⟨vs, h.rd, h.rows⟩
theorem RdII.below {w w' : World} {lo hi : Nat} {v : Value} {ls : List (List Int)} (h : RdII w lo hi v ls) (hb : Below w.heap.size w w') : RdII w' lo hi v ls := by
  obtain ⟨vs, h⟩ := h
  exact ⟨vs, h.rd.below hb, h.rows.below hb, h.out, h.inn⟩
theorem RdII.alloc {w : World} {lo hi : Nat} {v : Value} {ls : List (List Int)} (h : RdII w lo hi v ls) (o : Obj) : RdII (w.alloc o) lo hi v ls := h.below ((Below.refl _ _).alloc (Nat.le_refl _) o)
theorem RdII.gri {w w' : World} {lo hi lo' hi' : Nat} {v : Value} {ls : List (List Int)} (h : RdII w lo' hi' v ls) (hg : GrI w w' lo hi) (hd : hi' ≤ lo ∨ hi ≤ lo') : RdII w' lo' hi' v ls := by
  obtain ⟨vs, h⟩ := h
  exact ⟨vs, hg.reads h.rd fun k hk => by have := h.out k hk; omega, ⟨h.rows.len, fun i hi => hg.reads (h.rows.row i hi) fun k hk => by have := h.inn i hi k hk; omega⟩, h.out, h.inn⟩
theorem RdII.widen {w : World} {lo lo' hi hi' : Nat} {v : Value} {ls : List (List Int)} (h : RdII w lo hi v ls) (hl : lo' ≤ lo) (hh : hi ≤ hi') : RdII w lo' hi' v ls := by
  obtain ⟨vs, h⟩ := h
  exact ⟨vs, h.rd, h.rows, fun k hk => by have := h.out k hk; omega, fun i hi k hk => by have := h.inn i hi k hk; omega⟩
theorem RdII.lower {w : World} {lo lo' hi : Nat} {v : Value} {ls : List (List Int)} (h : RdII w lo hi v ls) (hl : lo' ≤ lo) : RdII w lo' hi v ls := h.widen hl (Nat.le_refl _)
theorem RdII.form3 {w : World} {lo hi : Nat} {v : Value} {ls : List (List Int)} (h : RdII w lo hi v ls) : ∃ a n c, v = .slice a n c := by
  obtain ⟨vs, h⟩ := h
  obtain ⟨a, c, rfl, -⟩ := h.rd.form
  exact ⟨a, _, c, rfl⟩
theorem RdII.form {w : World} {lo hi : Nat} {v : Value} {ls : List (List Int)} (h : RdII w lo hi v ls) : ∃ a n c, v = .slice a n c := h.form3
theorem RdII.setAt {w : World} {lo hi : Nat} {v : Value} {ls : List (List Int)} (h : RdII w lo hi v ls) {g : Nat} (hg : g < lo) (i : Nat) (x : Value) : RdII (w.setCell ⟨g, i, none⟩ x) lo hi v ls := by
  obtain ⟨vs, h⟩ := h
  exact ⟨vs, h.rd.keep fun k hk _ => Below.heap_setCell _ _ _ _ (fun e => by have := h.out k hk; simp at e; omega), ⟨h.rows.len, fun i hi => (h.rows.row i hi).keep fun k hk _ => Below.heap_setCell _ _ _ _ (fun e => by have := h.inn i hi k hk; simp at e; omega)⟩, h.out, h.inn⟩
theorem RdII.topped {w : World} {lo hi hi' : Nat} {v : Value} {ls : List (List Int)} (h : RdII w lo hi v ls) (hh : hi ≤ hi') : RdII w lo hi' v ls := h.widen (Nat.le_refl _) hh
theorem RdII.lowered {w : World} {lo lo' hi hi' : Nat} {v : Value} {ls : List (List Int)} (h : RdII w lo hi v ls) (hl : lo' ≤ lo) (hh : hi ≤ hi' := by simp [World.setCell]) : RdII w lo' hi' v ls := h.widen hl hh
theorem RdII.of {w : World} {lo B : Nat} {e : TypeId} {v : Value} {vs : List Value} {ls : List (List Int)} (h : Own w B e v vs) (hr : RowsB w lo vs ls) (hB : lo ≤ B) : RdII w lo w.heap.size v ls :=
  ⟨vs, h.reads, hr.rows, fun k hk => by have := h.blk_lt hk; omega, fun i hi k hk => hr.blks i hi k hk⟩
theorem RdII.empty (w : World) (lo hi : Nat) : RdII w lo hi (.slice none 0 0) [] :=
  ⟨[], (Own.nilv w 0 32).reads, ⟨rfl, fun i hi => absurd hi (by simp)⟩, fun k hk => by simp [blk] at hk, fun i hi => absurd hi (by simp)⟩
theorem OwnII.setAt {w : World} {lo hi : Nat} {eo ei : TypeId} {v : Value} {ls : List (List Int)} (h : OwnII w lo hi eo ei v ls) {g : Nat} (hg : g < lo) (i : Nat) (x : Value) : OwnII (w.setCell ⟨g, i, none⟩ x) lo hi eo ei v ls := by
  obtain ⟨vs, h⟩ := h
  exact ⟨vs, h.keep fun _ _ _ k => k.setAt hg i x⟩
theorem OwnII.topped {w : World} {lo hi hi' : Nat} {eo ei : TypeId} {v : Value} {ls : List (List Int)} (h : OwnII w lo hi eo ei v ls) (hh : hi ≤ hi') : OwnII w lo hi' eo ei v ls := h.widen (Nat.le_refl _) hh
theorem OwnII.lowered {w : World} {lo lo' hi hi' : Nat} {eo ei : TypeId} {v : Value} {ls : List (List Int)} (h : OwnII w lo hi eo ei v ls) (hl : lo' ≤ lo) (hh : hi ≤ hi' := by simp [World.setCell]) : OwnII w lo' hi' eo ei v ls := h.widen hl hh
theorem OwnII.empty (w : World) (lo hi : Nat) : OwnII w lo hi 32 2 (.slice none 0 0) [] :=
  ⟨[], ⟨Own.nilv _ _ _, fun k hk => by simp [blk] at hk⟩, rfl, fun i hi => absurd hi (by simp), fun i j _ hj => absurd hj (by simp), fun i hi => absurd hi (by simp)⟩
theorem NB.ownII {n : Nat} {w : World} {B : Nat} {o : Value} {us : List Value} {L : List (Pm n)} (h : NB w B o us L) : OwnII w B w.heap.size 32 2 o (vals L) :=
  ⟨us, ⟨h.own, fun k hk => (h.own.blk_lt hk).2⟩, by simpa using h.len, fun i hi => by rw [length_vals] at hi; rw [rat_vals hi]; exact ⟨h.row i hi, fun k hk => ((h.row i hi).blk_lt hk).2⟩,
    fun i j hij hj => by rw [length_vals] at hj; exact h.apart i j (by omega) (by omega) hj, fun i hi => by rw [length_vals] at hi; exact h.outer i hi⟩

def nfN (n : Int) (l : List Int) : Int := if okB n l then n else 0
def nfP (n : Int) (l : List Int) : Int := if okB n l then (nfW n.toNat l).1 else 0
def nfL (n : Int) (l : List Int) : List (List Int) := if okB n l then vals (nfW n.toNat l).2 else []
theorem nfW_len (n : Nat) (l : List Int) : (nfW n l).2.length ≤ l.length ∧ -(l.length : Int) ≤ (nfW n l).1 ∧ (nfW n l).1 ≤ l.length := by
  have e : nfW n l = (gar n).NF ((stTo n l l.length).1, (stTo n l l.length).2) := by unfold nfW stTo; rw [List.take_length]
  have h1 := (gar n).NF_len (stTo n l l.length).1 (stTo n l l.length).2
  have h2 := stTo_len (n := n) l l.length
  rw [← e] at h1
  omega
theorem nfL_tot (n : Int) (l : List Int) : tot (nfL n l) ≤ 480 := by
  unfold nfL
  split
  · rename_i h
    obtain ⟨h0, h1, h2, -⟩ := okB_of h
    rw [tot_vals]
    have := (nfW_len n.toNat l).1
    have h5 : n.toNat ≤ 12 := by omega
    have h6 : (nfW n.toNat l).2.length ≤ 40 := by omega
    have := Nat.mul_le_mul h5 h6
    omega
  · simp [tot]


set_option maxRecDepth 100000 in
set_option maxHeartbeats 4000000 in
theorem vnf_spec (n : Int) (v : Value) (l : List Int) (w : World) (h : Reads w v (ints l)) :
    Calls Try.prog 47 #[.agg #[.int .i64 n, v]] w fun e w' => ∃ x, e = .returned (.tuple #[.agg #[.int .i64 (nfN n l), .int .i64 (nfP n l), x], .bool (okB n l)]) ∧ RdII w' w.heap.size w'.heap.size x (nfL n l) ∧ Below w.heap.size w w' := by
  have hA0 := (Bx.new w #[.int .i64 n, v] 35).alloc (.cells #[.int .i64 0, .int .i64 0, .slice none 0 0] 27)
  have hR0 := Bx.new (w.alloc (.cells #[.int .i64 n, v] 35)) #[.int .i64 0, .int .i64 0, .slice none 0 0] 27
  have hb0 : Below w.heap.size w ((w.alloc (.cells #[.int .i64 n, v] 35)).alloc (.cells #[.int .i64 0, .int .i64 0, .slice none 0 0] 27)) := ((Below.refl _ _).alloc (Nat.le_refl _) _).alloc (by simp) _
  have hrA := reads_alloc (reads_alloc h (.cells #[.int .i64 n, v] 35)) (.cells #[.int .i64 0, .int .i64 0, .slice none 0 0] 27)
  have hsz0 : ((w.alloc (.cells #[.int .i64 n, v] 35)).alloc (.cells #[.int .i64 0, .int .i64 0, .slice none 0 0] 27)).heap.size = w.heap.size + 1 + 1 := by simp
  simp only [World.size_alloc] at hR0
  go_enter Try.func47, Try.ntmps47
  go_wp2_with fail
  generalize ((w.alloc (.cells #[.int .i64 n, v] 35)).alloc (.cells #[.int .i64 0, .int .i64 0, .slice none 0 0] 27)) = w0 at *
  have A0 := hA0.cell 0 rfl
  have A1 := hA0.cell 1 rfl
  go_wp2_with fail
  refine (bok_spec (w.heap.size) 0 n v l _ A0 A1 hrA).mono ?_
  rintro e w1 ⟨rfl, hs1⟩
  have hA1 := hA0.below hs1
  have hR1 := hR0.below hs1
  replace hrA := hrA.below hs1
  have hb1 := hb0.trans (hs1.mono hb0.size)
  have hsz1 := hs1.size
  clear hs1 hA0 hR0 hb0 A0 A1
  have A0 := hA1.cell 0 rfl
  have A1 := hA1.cell 1 rfl
  cases e1 : okB n l with
  | false =>
    have R0 := hR1.cell 0 rfl
    have R1 := hR1.cell 1 rfl
    have R2 := hR1.cell 2 rfl
    have F0 := hR1.frozen 0
    have F1 := hR1.frozen 1
    have F2 := hR1.frozen 2
    have g5 := ((hR1.set 0 (.int .i64 0)).set 1 (.int .i64 0)).set 2 (.slice none 0 0)
    have g0 := g5.cell 0 rfl
    have g1 := g5.cell 1 rfl
    have g2 := g5.cell 2 rfl
    go_wp2_with fail
    refine bodyPost_ret (v := .tuple #[.agg #[.int .i64 0, .int .i64 0, .slice none 0 0], .bool false]) (by simp [g0, g1, g2, results, Try.results47, go_sem]) rfl ⟨_, by unfold nfN nfP; rw [e1]; rfl, by unfold nfL; rw [e1]; exact RdII.empty _ _ _, ((hb1.setCell (by simp) _).setCell (by simp) _).setCell (by simp) _⟩
  | true =>
  replace e1 := hid e1
  obtain ⟨a, rfl⟩ := Int.eq_ofNat_of_zero_le (okB_of e1.out).1
  have q1 := (okB_of e1.out)
  obtain ⟨_, q3, q4, -⟩ := q1
  have hR1' := hid hR1
  have hb1' := hid hb1
  clear hR1 hb1
  go_wp2_with fail
  refine (normal_spec a v l w1 hrA (by omega) (Wok.of e1.out) (by omega)).mono ?_
  rintro e w3 ⟨o, us, rfl, ho, hrw, hs3⟩
  obtain ⟨oa, on, oc, rfl⟩ := own_lit ho
  have hO := RdII.of ho hrw (Nat.le_refl _)
  have hR3 := hR1'.out.below hs3
  have hb3 := hid (hb1'.out.trans (hs3.mono hb1'.out.size))
  have hsz3 := hs3.size
  have R0 := hR3.cell 0 rfl
  have R1 := hR3.cell 1 rfl
  have R2 := hR3.cell 2 rfl
  have F0 := hR3.frozen 0
  have F1 := hR3.frozen 1
  have F2 := hR3.frozen 2
  have g5 := ((hR3.set 0 (.int .i64 a)).set 1 (.int .i64 (nfW a l).1)).set 2 (.slice oa on oc)
  have g0 := g5.cell 0 rfl
  have g1 := g5.cell 1 rfl
  have g2 := g5.cell 2 rfl
  have hE := hid ((((hO.setAt (g := w.heap.size + 1) (by omega) 0 (.int .i64 a)).setAt (g := w.heap.size + 1) (by omega) 1 (.int .i64 (nfW a l).1)).setAt (g := w.heap.size + 1) (by omega) 2 (.slice oa on oc)).lowered (lo' := w.heap.size) (hi' := w3.heap.size) (by omega) (Nat.le_refl _))
  clear hs3 hO hR3 g5 ho hrw
  go_wp2_with fail
  refine bodyPost_ret (v := .tuple #[.agg #[.int .i64 a, .int .i64 (nfW a l).1, .slice oa on oc], .bool true]) (by simp [g0, g1, g2, results, Try.results47, go_sem]) rfl ⟨.slice oa on oc, by unfold nfN nfP; rw [e1.out]; rfl, ?_, ((hb3.out.setCell (by simp) _).setCell (by simp) _).setCell (by simp) _⟩
  unfold nfL
  rw [e1.out]
  exact hE.out.topped (by simp [World.setCell])


set_option maxRecDepth 100000 in
set_option maxHeartbeats 4000000 in
theorem vnf_impl (n : Int) (v : Value) (l : List Int) (w : World) (h : Reads w v (ints l)) :
    Calls Try.prog 26 #[.agg #[.int .i64 n, v]] w fun e w' => ∃ x, e = .returned (.tuple #[.agg #[.int .i64 (nfN n l), .int .i64 (nfP n l), x], .bool (okB n l)]) ∧ OwnII w' w.heap.size w'.heap.size 32 2 x (nfL n l) ∧ Below w.heap.size w w' := by
  have hA0 := (Bx.new w #[.int .i64 n, v] 35).alloc (.cells #[.int .i64 0, .int .i64 0, .slice none 0 0] 27)
  have hR0 := Bx.new (w.alloc (.cells #[.int .i64 n, v] 35)) #[.int .i64 0, .int .i64 0, .slice none 0 0] 27
  have hb0 : Below w.heap.size w ((w.alloc (.cells #[.int .i64 n, v] 35)).alloc (.cells #[.int .i64 0, .int .i64 0, .slice none 0 0] 27)) := ((Below.refl _ _).alloc (Nat.le_refl _) _).alloc (by simp) _
  have hrA := reads_alloc (reads_alloc h (.cells #[.int .i64 n, v] 35)) (.cells #[.int .i64 0, .int .i64 0, .slice none 0 0] 27)
  have hsz0 : ((w.alloc (.cells #[.int .i64 n, v] 35)).alloc (.cells #[.int .i64 0, .int .i64 0, .slice none 0 0] 27)).heap.size = w.heap.size + 1 + 1 := by simp
  simp only [World.size_alloc] at hR0
  go_enter Try.func26, Try.ntmps26
  go_wp2_with fail
  generalize ((w.alloc (.cells #[.int .i64 n, v] 35)).alloc (.cells #[.int .i64 0, .int .i64 0, .slice none 0 0] 27)) = w0 at *
  have A0 := hA0.cell 0 rfl
  have A1 := hA0.cell 1 rfl
  go_wp2_with fail
  refine (vb_impl n v l _ hrA).mono ?_
  rintro e w1 ⟨rfl, hs1⟩
  have hA1 := hA0.below hs1
  have hR1 := hR0.below hs1
  replace hrA := hrA.below hs1
  have hb1 := hb0.trans (hs1.mono hb0.size)
  have hsz1 := hs1.size
  clear hs1 hA0 hR0 hb0 A0 A1
  have A0 := hA1.cell 0 rfl
  have A1 := hA1.cell 1 rfl
  cases e1 : okB n l with
  | false =>
    have R0 := hR1.cell 0 rfl
    have R1 := hR1.cell 1 rfl
    have R2 := hR1.cell 2 rfl
    have F0 := hR1.frozen 0
    have F1 := hR1.frozen 1
    have F2 := hR1.frozen 2
    have g5 := ((hR1.set 0 (.int .i64 0)).set 1 (.int .i64 0)).set 2 (.slice none 0 0)
    have g0 := g5.cell 0 rfl
    have g1 := g5.cell 1 rfl
    have g2 := g5.cell 2 rfl
    go_wp2_with fail
    refine bodyPost_ret (v := .tuple #[.agg #[.int .i64 0, .int .i64 0, .slice none 0 0], .bool false]) (by simp [g0, g1, g2, results, Try.results26, go_sem]) rfl ⟨_, by unfold nfN nfP; rw [e1]; rfl, by unfold nfL; rw [e1]; exact OwnII.empty _ _ _, ((hb1.setCell (by simp) _).setCell (by simp) _).setCell (by simp) _⟩
  | true =>
  replace e1 := hid e1
  obtain ⟨a, rfl⟩ := Int.eq_ofNat_of_zero_le (okB_of e1.out).1
  have q1 := (okB_of e1.out)
  obtain ⟨_, q3, q4, -⟩ := q1
  have hR1' := hid hR1
  have hb1' := hid hb1
  clear hR1 hb1
  go_wp2_with fail
  refine (normal_impl a v l w1 hrA (by omega) (Wok.of e1.out) (by omega)).mono ?_
  rintro e w3 ⟨o, us, rfl, hN, hs3⟩
  obtain ⟨oa, on, oc, rfl⟩ := own_lit hN.own
  have hO := hN.ownII
  have hR3 := hR1'.out.below hs3
  have hb3 := hid (hb1'.out.trans (hs3.mono hb1'.out.size))
  have hsz3 := hs3.size
  have R0 := hR3.cell 0 rfl
  have R1 := hR3.cell 1 rfl
  have R2 := hR3.cell 2 rfl
  have F0 := hR3.frozen 0
  have F1 := hR3.frozen 1
  have F2 := hR3.frozen 2
  have g5 := ((hR3.set 0 (.int .i64 a)).set 1 (.int .i64 (nfW a l).1)).set 2 (.slice oa on oc)
  have g0 := g5.cell 0 rfl
  have g1 := g5.cell 1 rfl
  have g2 := g5.cell 2 rfl
  have hE := hid ((((hO.setAt (g := w.heap.size + 1) (by omega) 0 (.int .i64 a)).setAt (g := w.heap.size + 1) (by omega) 1 (.int .i64 (nfW a l).1)).setAt (g := w.heap.size + 1) (by omega) 2 (.slice oa on oc)).lowered (lo' := w.heap.size) (hi' := w3.heap.size) (by omega) (Nat.le_refl _))
  clear hs3 hO hR3 g5 hN
  go_wp2_with fail
  refine bodyPost_ret (v := .tuple #[.agg #[.int .i64 a, .int .i64 (nfW a l).1, .slice oa on oc], .bool true]) (by simp [g0, g1, g2, results, Try.results26, go_sem]) rfl ⟨.slice oa on oc, by unfold nfN nfP; rw [e1.out]; rfl, ?_, ((hb3.out.setCell (by simp) _).setCell (by simp) _).setCell (by simp) _⟩
  unfold nfL
  rw [e1.out]
  exact hE.out.topped (by simp [World.setCell])


end Go.Proofs.Ytmeccemnmkobbaa
