/- Contracts: whether braids are equal, and whether one is trivial. -/
import Derived.Test.YtmeccemnmkobbaaRek
import Derived.Test.YtmeccemnmkobbaaBrb
namespace Go.Proofs.Ytmeccemnmkobbaa
open Go.RowKit
open Pm

def eqBr (n : Int) (l : List Int) (m : Int) (k : List Int) : Bool := okB n l && okB m k && (n == m) && decide (nfW n.toNat l = nfW n.toNat k)
def trivB (n : Int) (l : List Int) : Bool := okB n l && decide (nfW n.toNat l = nfW n.toNat [])
theorem Wok.of {n : Nat} {l : List Int} (h : okB (n : Int) l = true) : Wok n l := fun i hi => (okB_of h).2.2.2 i hi
theorem Wok.empty (n : Nat) : Wok n [] := fun i hi => absurd hi (by simp)
theorem reads_nil (w : World) : Reads w (.slice none 0 0) (ints []) := (Own.nilv w 0 2).reads


set_option maxRecDepth 100000 in
set_option maxHeartbeats 4000000 in
theorem veq_spec (n : Int) (v : Value) (l : List Int) (m : Int) (u : Value) (k : List Int) (w : World) (h : Reads w v (ints l)) (h' : Reads w u (ints k)) :
    Calls Try.prog 34 #[.agg #[.int .i64 n, v], .agg #[.int .i64 m, u]] w fun e w' => e = .returned (.bool (eqBr n l m k)) ∧ Below w.heap.size w w' := by
  have hA0 := (Bx.new w #[.int .i64 n, v] 35).alloc (.cells #[.int .i64 m, u] 35)
  have hB0 := Bx.new (w.alloc (.cells #[.int .i64 n, v] 35)) #[.int .i64 m, u] 35
  have hb0 : Below w.heap.size w ((w.alloc (.cells #[.int .i64 n, v] 35)).alloc (.cells #[.int .i64 m, u] 35)) := ((Below.refl _ _).alloc (Nat.le_refl _) _).alloc (by simp) _
  have hrA := reads_alloc (reads_alloc h (.cells #[.int .i64 n, v] 35)) (.cells #[.int .i64 m, u] 35)
  have hrB := reads_alloc (reads_alloc h' (.cells #[.int .i64 n, v] 35)) (.cells #[.int .i64 m, u] 35)
  simp only [World.size_alloc] at hB0
  go_enter Try.func34, Try.ntmps34
  go_wp2_with fail
  generalize ((w.alloc (.cells #[.int .i64 n, v] 35)).alloc (.cells #[.int .i64 m, u] 35)) = w0 at *
  have A0 := hA0.cell 0 rfl
  have A1 := hA0.cell 1 rfl
  have B0 := hB0.cell 0 rfl
  have B1 := hB0.cell 1 rfl
  go_wp2_with fail
  refine (bok_spec (w.heap.size) 0 n v l _ A0 A1 hrA).mono ?_
  rintro e w1 ⟨rfl, hs1⟩
  have hA1 := hA0.below hs1
  have hB1 := hB0.below hs1
  replace hrA := hrA.below hs1
  replace hrB := hrB.below hs1
  have hb1 := hb0.trans (hs1.mono hb0.size)
  clear hs1 hA0 hB0 hb0 A0 A1 B0 B1
  have A0 := hA1.cell 0 rfl
  have A1 := hA1.cell 1 rfl
  have B0 := hB1.cell 0 rfl
  have B1 := hB1.cell 1 rfl
  cases e1 : okB n l with
  | false =>
    go_wp2_with fail
    go_ret
    exact ⟨by unfold eqBr; rw [e1]; rfl, hb1⟩
  | true =>
  replace e1 := hid e1
  go_wp2_with fail
  refine (bok_spec (w.heap.size + 1) 0 m u k _ B0 B1 hrB).mono ?_
  rintro e w2 ⟨rfl, hs2⟩
  have hA2 := hA1.below hs2
  have hB2 := hB1.below hs2
  replace hrA := hrA.below hs2
  replace hrB := hrB.below hs2
  have hb2 := hb1.trans (hs2.mono hb1.size)
  clear hs2 hA1 hB1 hb1 A0 A1 B0 B1
  have A0 := hA2.cell 0 rfl
  have A1 := hA2.cell 1 rfl
  have B0 := hB2.cell 0 rfl
  have B1 := hB2.cell 1 rfl
  cases e2 : okB m k with
  | false =>
    go_wp2_with fail
    go_ret
    exact ⟨by unfold eqBr; rw [e1.out, e2]; rfl, hb2⟩
  | true =>
  replace e2 := hid e2
  cases e3 : (n == m) with
  | false =>
    go_wp2_with fail
    go_ret
    exact ⟨by unfold eqBr; rw [e1.out, e2.out, e3]; rfl, hb2⟩
  | true =>
  obtain rfl : n = m := by simpa using e3
  obtain ⟨a, rfl⟩ := Int.eq_ofNat_of_zero_le (okB_of e1.out).1
  have q1 := (okB_of e1.out)
  have q2 := (okB_of e2.out)
  obtain ⟨_, q3, q4, -⟩ := q1
  obtain ⟨_, _, q5, -⟩ := q2
  go_wp2_with fail
  refine (equal_spec a v u l k w2 hrA hrB (by omega) (by omega) (Wok.of e1.out) (Wok.of e2.out) (by omega)).mono ?_
  rintro e w3 ⟨rfl, hs3⟩
  have hb3 := hid (hb2.trans (hs3.mono hb2.size))
  go_wp2_with fail
  go_ret
  exact ⟨by unfold eqBr; rw [e1.out, e2.out, e3]; rfl, hb3.out⟩


set_option maxRecDepth 100000 in
set_option maxHeartbeats 4000000 in
theorem veq_impl (n : Int) (v : Value) (l : List Int) (m : Int) (u : Value) (k : List Int) (w : World) (h : Reads w v (ints l)) (h' : Reads w u (ints k)) :
    Calls Try.prog 35 #[.agg #[.int .i64 n, v], .agg #[.int .i64 m, u]] w fun e w' => e = .returned (.bool (eqBr n l m k)) ∧ Below w.heap.size w w' := by
  have hA0 := (Bx.new w #[.int .i64 n, v] 35).alloc (.cells #[.int .i64 m, u] 35)
  have hB0 := Bx.new (w.alloc (.cells #[.int .i64 n, v] 35)) #[.int .i64 m, u] 35
  have hb0 : Below w.heap.size w ((w.alloc (.cells #[.int .i64 n, v] 35)).alloc (.cells #[.int .i64 m, u] 35)) := ((Below.refl _ _).alloc (Nat.le_refl _) _).alloc (by simp) _
  have hrA := reads_alloc (reads_alloc h (.cells #[.int .i64 n, v] 35)) (.cells #[.int .i64 m, u] 35)
  have hrB := reads_alloc (reads_alloc h' (.cells #[.int .i64 n, v] 35)) (.cells #[.int .i64 m, u] 35)
  simp only [World.size_alloc] at hB0
  go_enter Try.func35, Try.ntmps35
  go_wp2_with fail
  generalize ((w.alloc (.cells #[.int .i64 n, v] 35)).alloc (.cells #[.int .i64 m, u] 35)) = w0 at *
  have A0 := hA0.cell 0 rfl
  have A1 := hA0.cell 1 rfl
  have B0 := hB0.cell 0 rfl
  have B1 := hB0.cell 1 rfl
  go_wp2_with fail
  refine (vb_impl n v l _ hrA).mono ?_
  rintro e w1 ⟨rfl, hs1⟩
  have hA1 := hA0.below hs1
  have hB1 := hB0.below hs1
  replace hrA := hrA.below hs1
  replace hrB := hrB.below hs1
  have hb1 := hb0.trans (hs1.mono hb0.size)
  clear hs1 hA0 hB0 hb0 A0 A1 B0 B1
  have A0 := hA1.cell 0 rfl
  have A1 := hA1.cell 1 rfl
  have B0 := hB1.cell 0 rfl
  have B1 := hB1.cell 1 rfl
  cases e1 : okB n l with
  | false =>
    go_wp2_with fail
    go_ret
    exact ⟨by unfold eqBr; rw [e1]; rfl, hb1⟩
  | true =>
  replace e1 := hid e1
  go_wp2_with fail
  refine (vb_impl m u k _ hrB).mono ?_
  rintro e w2 ⟨rfl, hs2⟩
  have hA2 := hA1.below hs2
  have hB2 := hB1.below hs2
  replace hrA := hrA.below hs2
  replace hrB := hrB.below hs2
  have hb2 := hb1.trans (hs2.mono hb1.size)
  clear hs2 hA1 hB1 hb1 A0 A1 B0 B1
  have A0 := hA2.cell 0 rfl
  have A1 := hA2.cell 1 rfl
  have B0 := hB2.cell 0 rfl
  have B1 := hB2.cell 1 rfl
  cases e2 : okB m k with
  | false =>
    go_wp2_with fail
    go_ret
    exact ⟨by unfold eqBr; rw [e1.out, e2]; rfl, hb2⟩
  | true =>
  replace e2 := hid e2
  cases e3 : (n == m) with
  | false =>
    go_wp2_with fail
    go_ret
    exact ⟨by unfold eqBr; rw [e1.out, e2.out, e3]; rfl, hb2⟩
  | true =>
  obtain rfl : n = m := by simpa using e3
  obtain ⟨a, rfl⟩ := Int.eq_ofNat_of_zero_le (okB_of e1.out).1
  have q1 := (okB_of e1.out)
  have q2 := (okB_of e2.out)
  obtain ⟨_, q3, q4, -⟩ := q1
  obtain ⟨_, _, q5, -⟩ := q2
  go_wp2_with fail
  refine (eqw_impl a v u l k w2 hrA hrB (by omega) (by omega) (Wok.of e1.out) (Wok.of e2.out) (by omega)).mono ?_
  rintro e w3 ⟨rfl, hs3⟩
  have hb3 := hid (hb2.trans (hs3.mono hb2.size))
  go_wp2_with fail
  go_ret
  exact ⟨by unfold eqBr; rw [e1.out, e2.out, e3]; rfl, hb3.out⟩


set_option maxRecDepth 100000 in
set_option maxHeartbeats 4000000 in
theorem vtriv_spec (n : Int) (v : Value) (l : List Int) (w : World) (h : Reads w v (ints l)) :
    Calls Try.prog 30 #[.agg #[.int .i64 n, v]] w fun e w' => e = .returned (.bool (trivB n l)) ∧ Below w.heap.size w w' := by
  have hA0 := Bx.new w #[.int .i64 n, v] 35
  have hb0 : Below w.heap.size w (w.alloc (.cells #[.int .i64 n, v] 35)) := (Below.refl _ _).alloc (Nat.le_refl _) _
  have hrA := reads_alloc h (.cells #[.int .i64 n, v] 35)
  go_enter Try.func30, Try.ntmps30
  go_wp2_with fail
  generalize (w.alloc (.cells #[.int .i64 n, v] 35)) = w0 at *
  have A0 := hA0.cell 0 rfl
  have A1 := hA0.cell 1 rfl
  go_wp2_with fail
  refine (bok_spec (w.heap.size) 0 n v l _ A0 A1 hrA).mono ?_
  rintro e w1 ⟨rfl, hs1⟩
  have hA1 := hA0.below hs1
  replace hrA := hrA.below hs1
  have hb1 := hb0.trans (hs1.mono hb0.size)
  clear hs1 hA0 hb0 A0 A1
  have A0 := hA1.cell 0 rfl
  have A1 := hA1.cell 1 rfl
  cases e1 : okB n l with
  | false =>
    go_wp2_with fail
    go_ret
    exact ⟨by unfold trivB; rw [e1]; rfl, hb1⟩
  | true =>
  replace e1 := hid e1
  obtain ⟨a, rfl⟩ := Int.eq_ofNat_of_zero_le (okB_of e1.out).1
  have q1 := (okB_of e1.out)
  obtain ⟨_, q3, q4, -⟩ := q1
  go_wp2_with fail
  refine (equal_spec a v (.slice none 0 0) l [] w1 hrA (reads_nil _) (by omega) (by simp) (Wok.of e1.out) (Wok.empty a) (by omega)).mono ?_
  rintro e w3 ⟨rfl, hs3⟩
  have hb3 := hid (hb1.trans (hs3.mono hb1.size))
  go_wp2_with fail
  go_ret
  exact ⟨by unfold trivB; rw [e1.out]; rfl, hb3.out⟩


set_option maxRecDepth 100000 in
set_option maxHeartbeats 4000000 in
theorem vtriv_impl (n : Int) (v : Value) (l : List Int) (w : World) (h : Reads w v (ints l)) :
    Calls Try.prog 32 #[.agg #[.int .i64 n, v]] w fun e w' => e = .returned (.bool (trivB n l)) ∧ Below w.heap.size w w' := by
  have hA0 := Bx.new w #[.int .i64 n, v] 35
  have hb0 : Below w.heap.size w (w.alloc (.cells #[.int .i64 n, v] 35)) := (Below.refl _ _).alloc (Nat.le_refl _) _
  have hrA := reads_alloc h (.cells #[.int .i64 n, v] 35)
  go_enter Try.func32, Try.ntmps32
  go_wp2_with fail
  generalize (w.alloc (.cells #[.int .i64 n, v] 35)) = w0 at *
  have A0 := hA0.cell 0 rfl
  have A1 := hA0.cell 1 rfl
  go_wp2_with fail
  refine (vb_impl n v l _ hrA).mono ?_
  rintro e w1 ⟨rfl, hs1⟩
  have hA1 := hA0.below hs1
  replace hrA := hrA.below hs1
  have hb1 := hb0.trans (hs1.mono hb0.size)
  clear hs1 hA0 hb0 A0 A1
  have A0 := hA1.cell 0 rfl
  have A1 := hA1.cell 1 rfl
  cases e1 : okB n l with
  | false =>
    go_wp2_with fail
    go_ret
    exact ⟨by unfold trivB; rw [e1]; rfl, hb1⟩
  | true =>
  replace e1 := hid e1
  obtain ⟨a, rfl⟩ := Int.eq_ofNat_of_zero_le (okB_of e1.out).1
  have q1 := (okB_of e1.out)
  obtain ⟨_, q3, q4, -⟩ := q1
  go_wp2_with fail
  refine (eqw_impl a v (.slice none 0 0) l [] w1 hrA (reads_nil _) (by omega) (by simp) (Wok.of e1.out) (Wok.empty a) (by omega)).mono ?_
  rintro e w3 ⟨rfl, hs3⟩
  have hb3 := hid (hb1.trans (hs3.mono hb1.size))
  go_wp2_with fail
  go_ret
  exact ⟨by unfold trivB; rw [e1.out]; rfl, hb3.out⟩


end Go.Proofs.Ytmeccemnmkobbaa
