/- Contracts: joined braids. -/
import Derived.Test.YtmeccemnmkobbaaBre
import Derived.Deep.RegionWith
import Derived.Test.YtmeccemnmkobbaaSli
import Derived.Test.YtmeccemnmkobbaaBx
import Derived.Test.YtmeccemnmkobbaaDel
import Derived.Test.YtmeccemnmkobbaaCat
import Derived.Deep.RegionHeld3
namespace Go.Proofs.Ytmeccemnmkobbaa
open Go.RowKit

theorem Own.form3 {w : World} {B : Nat} {e : TypeId} {v : Value} {xs : List Value} (h : Own w B e v xs) : ∃ a n c, v = .slice a n c := by
  obtain ⟨a, c, rfl, -⟩ := h.reads.form
  exact ⟨a, _, c, rfl⟩
theorem Own.set_far {w : World} {B : Nat} {e : TypeId} {v : Value} {xs : List Value} (h : Own w B e v xs) (k o : Nat) (y : Value) (hk : k < B) : Own (w.setCell ⟨k, o, none⟩ y) B e v xs :=
  h.keep fun j hj _ => Below.heap_setCell _ _ _ _ (fun e => by have := (h.blk_lt hj).1; simp at e; omega)
theorem own_nilB (w : World) (B : Nat) (e : TypeId) : Own w B e (.slice none 0 0) (ints []) := .inl ⟨rfl, rfl⟩
/-- the value of a braid, or of none -/
def okN (n : Int) (l : List Int) : Int := if okB n l then n else 0
def okL (n : Int) (l k : List Int) : List Int := if okB n l then k else []


set_option maxRecDepth 100000 in
set_option maxHeartbeats 2000000 in
theorem vinv_spec (n : Int) (v : Value) (l : List Int) (w : World) (h : Reads w v (ints l)) :
    Calls Try.prog 52 #[.agg #[.int .i64 n, v]] w fun e w' => ∃ u, e = .returned (.agg #[.int .i64 (okN n l), u]) ∧ Own w' w.heap.size 2 u (ints (okL n l (invW l))) ∧ Below w.heap.size w w' := by
  have hr0 := reads_alloc (reads_alloc h (.cells #[.int .i64 n, v] 35)) (.cells #[.int .i64 0, .slice none 0 0] 35)
  have hA := own_alloc (own_arr w 35 #[.int .i64 n, v] 2 rfl (by omega) (Nat.zero_le _)) (.cells #[.int .i64 0, .slice none 0 0] 35)
  have hR := own_arr (w.alloc (.cells #[.int .i64 n, v] 35)) 35 #[.int .i64 0, .slice none 0 0] 2 rfl (by omega) (Nat.zero_le _)
  have hbox : Below w.heap.size w ((w.alloc (.cells #[.int .i64 n, v] 35)).alloc (.cells #[.int .i64 0, .slice none 0 0] 35)) := ((Below.refl _ _).alloc (Nat.le_refl _) _).alloc (by simp) _
  go_enter Try.func52, Try.ntmps52
  go_wp2_with fail
  generalize hW : ((w.alloc (.cells #[.int .i64 n, v] 35)).alloc (.cells #[.int .i64 0, .slice none 0 0] 35)) = w2 at *
  have hsz : w2.heap.size = w.heap.size + 1 + 1 := by rw [← hW]; simp
  clear hW
  simp only [World.size_alloc] at hR
  have cA0 := hA.reads.cell 0 _ rfl
  have cA1 := hA.reads.cell 1 _ rfl
  rw [adr_arr] at cA0 cA1
  refine (bok_spec w.heap.size 0 n v l _ cA0 cA1 hr0).mono ?_
  clear cA0 cA1
  rintro e w3 ⟨rfl, hs3⟩
  have hb3 := hbox.trans (hs3.mono (by omega))
  have hA3 := hA.below hs3
  have hR3 := hR.below hs3
  have hr3 := hr0.below hs3
  have hsz3 := hs3.size
  clear hs3 hA hR hbox hr0
  have cA0 := hA3.reads.cell 0 _ rfl
  have cA1 := hA3.reads.cell 1 _ rfl
  have cR0 := hR3.reads.cell 0 _ rfl
  have cR1 := hR3.reads.cell 1 _ rfl
  have fR0 := hR3.frozen (i := 0) (by simp)
  have fR1 := hR3.frozen (i := 1) (by simp)
  rw [adr_arr] at cA0 cA1 cR0 cR1 fR0 fR1
  cases e1 : okB n l with
  | false =>
    go_wp2_with fail
    have g5 := World.cell?_setCell_same _ _ (.int .i64 0) cR0
    have g5' := (World.cell?_setCell_other w3 ⟨w.heap.size + 1, 0, none⟩ ⟨w.heap.size + 1, 1, none⟩ (.int .i64 0) (by simp)).trans cR1
    have g6 := World.cell?_setCell_same _ _ (.slice none 0 0) g5'
    have g6' := (World.cell?_setCell_other (w3.setCell ⟨w.heap.size + 1, 0, none⟩ (.int .i64 0)) ⟨w.heap.size + 1, 1, none⟩ ⟨w.heap.size + 1, 0, none⟩ (.slice none 0 0) (by simp)).trans g5
    refine bodyPost_ret (v := .agg #[.int .i64 0, .slice none 0 0]) (by simp [g6, g6', results, Try.results52, go_sem]) rfl ⟨_, by simp [okN, e1]; rfl, ?_, ?_⟩
    · simp only [okL, e1]; exact own_nilB _ _ _
    · exact (hb3.setCell (by simp) _).setCell (by simp) _
  | true =>
    obtain ⟨q0, q1, q2, q3⟩ := okB_of e1
    go_wp2_with fail
    have hI := hid (fun (w' : World) (hw : Reads w' v (ints l)) => inv_spec' v l w' hw (by omega) (fun k hk => by have := q3 k hk; omega))
    have hr3d := hid (hr3.drewN 1)
    have hK := hid (fun (w' : World) (hw : Below w3.drew.heap.size w3.drew w') => (⟨(hA3.drewN 1).below hw, (hR3.drewN 1).below hw⟩ : _ ∧ _))
    clear hA3 hR3 hr3 q3
    go_region_with (go_at_call 84; refine (hI.out _ hr3d.out).mono ?_; rintro e w4 ⟨u, rfl, ho, hs⟩; obtain ⟨ua, um, uc, rfl⟩ := ho.form3; obtain ⟨hA4, hR4⟩ := hK.out _ hs; have dA0 := hA4.reads.cell 0 _ rfl; have dA1 := hA4.reads.cell 1 _ rfl; have dR0 := hR4.reads.cell 0 _ rfl; have dR1 := hR4.reads.cell 1 _ rfl; have gR0 := hR4.frozen (i := 0) (by simp); have gR1 := hR4.frozen (i := 1) (by simp); rw [adr_arr] at dA0 dA1 dR0 dR1 gR0 gR1)
    all_goals
      go_wp2_with fail
      have hb4 := hb3.trans (((Below.refl _ w3).drew.trans (hs.mono (Nat.le_refl _))).mono hb3.size)
      have g5 := World.cell?_setCell_same _ _ (.int .i64 n) dR0
      have g5' := (World.cell?_setCell_other w4 ⟨w.heap.size + 1, 0, none⟩ ⟨w.heap.size + 1, 1, none⟩ (.int .i64 n) (by simp)).trans dR1
      have g6 := World.cell?_setCell_same _ _ (.slice ua um uc) g5'
      have g6' := (World.cell?_setCell_other (w4.setCell ⟨w.heap.size + 1, 0, none⟩ (.int .i64 n)) ⟨w.heap.size + 1, 1, none⟩ ⟨w.heap.size + 1, 0, none⟩ (.slice ua um uc) (by simp)).trans g5
      refine bodyPost_ret (v := .agg #[.int .i64 n, .slice ua um uc]) (by simp [g6, g6', results, Try.results52, go_sem]) rfl ⟨_, by simp [okN, e1]; rfl, ?_, ?_⟩
      · simp only [okL, e1, ↓reduceIte]
        exact ((ho.set_far (w.heap.size + 1) _ _ (by simp; omega)).set_far (w.heap.size + 1) _ _ (by simp; omega)).mono (by simp; omega)
      · exact (hb4.setCell (by simp) _).setCell (by simp) _


end Go.Proofs.Ytmeccemnmkobbaa

namespace Go.Proofs.Ytmeccemnmkobbaa
open Go.RowKit

/-- one letter more: it cancels the last one, or it is appended -/
def redPush (out : List Int) (k : Int) : List Int := if 0 < out.length ∧ nth out (out.length - 1) = -k then out.take (out.length - 1) else out ++ [k]
/-- the word without letters that cancel -/
def redW (l : List Int) : List Int := l.foldl redPush []
theorem redW_take {l : List Int} {k : Nat} (h : k < l.length) : redW (l.take (k + 1)) = redPush (redW (l.take k)) (nth l k) := by
  rw [List.take_add_one, nth_of h, redW, List.foldl_append]; rfl
theorem length_redPush (out : List Int) (k : Int) : (redPush out k).length ≤ out.length + 1 := by
  unfold redPush; split <;> simp; omega
theorem length_redW (l : List Int) (k : Nat) : (redW (l.take k)).length ≤ k := by
  induction k with
  | zero => simp [redW]
  | succ k ih =>
    rcases Nat.lt_or_ge k l.length with h | h
    · rw [redW_take h]; have := length_redPush (redW (l.take k)) (nth l k); omega
    · rw [List.take_of_length_le (by omega)]; rw [List.take_of_length_le (by omega)] at ih; omega


theorem redPush_pop {o : List Int} {k : Int} (h : 0 < o.length) (e : nth o (o.length - 1) = -k) : redPush o k = o.take (o.length - 1) := by unfold redPush; rw [if_pos ⟨h, e⟩]
theorem redPush_app {o : List Int} {k : Int} (h : ¬ (0 < o.length ∧ nth o (o.length - 1) = -k)) : redPush o k = o ++ [k] := by unfold redPush; rw [if_neg h]


end Go.Proofs.Ytmeccemnmkobbaa

namespace Go.Proofs.Ytmeccemnmkobbaa
open Go.RowKit

theorem take_map_succ {l : List Int} {k : Nat} (f : Int → Int) (h : k < l.length) : (l.map f).take (k + 1) = (l.map f).take k ++ [f (nth l k)] := by
  rw [List.take_add_one, nth_of (by simpa using h), nth_map _ h]; rfl
/-- a letter seen from the other side -/
def mirL (n k : Int) : Int := if 0 < k then n - k else -n - k
theorem mirL_pos {n k : Int} (h : 0 < k) : mirL n k = n - k := by simp [mirL, h]
theorem mirL_neg {n k : Int} (h : ¬ 0 < k) : mirL n k = -n - k := by simp [mirL, h]


end Go.Proofs.Ytmeccemnmkobbaa

namespace Go.Proofs.Ytmeccemnmkobbaa
open Go.RowKit

/-- whether two braids can be joined, with the code that says so -/
def codeJ (n : Int) (l : List Int) (m : Int) (k : List Int) : Int := if okB n l && okB m k then (if n = m then (if (l.length : Int) + k.length ≤ 40 then 0 else 5) else 6) else 1
def nJ (n : Int) (l : List Int) (m : Int) (k : List Int) : Int := if codeJ n l m k = 0 then n else 0
def lJ (n : Int) (l : List Int) (m : Int) (k : List Int) : List Int := if codeJ n l m k = 0 then l ++ k else []


theorem reads_new (w : World) (cs : Array Value) (e : TypeId) (h : cs.size ≤ 9223372036854775807 := by simp) : Reads (w.alloc (.cells cs e)) (.slice (some ⟨w.heap.size, 0, none⟩) cs.size cs.size) cs.toList := by
  refine ⟨⟨some ⟨w.heap.size, 0, none⟩, cs.size, by simp, by simp⟩, by simpa using h, by rintro a n c e; cases e; exact Nat.le_refl _, ?_⟩
  intro i y hy
  show (w.alloc _).cell? ((⟨w.heap.size, 0, none⟩ : Addr).add i) = _
  rw [add_lit, Nat.zero_add, World.cell?_alloc_new]
  simpa using hy


set_option maxRecDepth 100000 in
set_option maxHeartbeats 8000000 in
theorem vjoin_spec (n : Int) (v : Value) (l : List Int) (m : Int) (u : Value) (k : List Int) (w : World) (h : Reads w v (ints l)) (h' : Reads w u (ints k)) :
    Calls Try.prog 25 #[.agg #[.int .i64 n, v], .agg #[.int .i64 m, u]] w fun e w' => ∃ x, e = .returned (.tuple #[.agg #[.int .i64 (nJ n l m k), x], .int .i64 (codeJ n l m k)]) ∧ Own w' w.heap.size 2 x (ints (lJ n l m k)) ∧ Below w.heap.size w w' := by
  have hs := h.small
  have hs' := h'.small
  have hlen := h.len (P := Try.prog) 32 3 ⟨_, sliceI⟩
  have hlen' := h'.len (P := Try.prog) 32 3 ⟨_, sliceI⟩
  simp only [length_ints] at hs hlen hs' hlen'
  have hA0 := ((Bx.new w #[.int .i64 n, v] 35).alloc (.cells #[.int .i64 m, u] 35)).alloc (.cells #[.int .i64 0, .slice none 0 0] 35)
  have hB0 := (Bx.new (w.alloc (.cells #[.int .i64 n, v] 35)) #[.int .i64 m, u] 35).alloc (.cells #[.int .i64 0, .slice none 0 0] 35)
  have hR0 := Bx.new ((w.alloc (.cells #[.int .i64 n, v] 35)).alloc (.cells #[.int .i64 m, u] 35)) #[.int .i64 0, .slice none 0 0] 35
  have hrA := reads_alloc (reads_alloc (reads_alloc h (.cells #[.int .i64 n, v] 35)) (.cells #[.int .i64 m, u] 35)) (.cells #[.int .i64 0, .slice none 0 0] 35)
  have hrB := reads_alloc (reads_alloc (reads_alloc h' (.cells #[.int .i64 n, v] 35)) (.cells #[.int .i64 m, u] 35)) (.cells #[.int .i64 0, .slice none 0 0] 35)
  have hb0 : Below w.heap.size w (((w.alloc (.cells #[.int .i64 n, v] 35)).alloc (.cells #[.int .i64 m, u] 35)).alloc (.cells #[.int .i64 0, .slice none 0 0] 35)) := (((Below.refl _ _).alloc (Nat.le_refl _) _).alloc (by simp) _).alloc (by simp; omega) _
  simp only [World.size_alloc] at hB0 hR0
  have hsz : (((w.alloc (.cells #[.int .i64 n, v] 35)).alloc (.cells #[.int .i64 m, u] 35)).alloc (.cells #[.int .i64 0, .slice none 0 0] 35)).heap.size = w.heap.size + 3 := by simp
  have A0 := hA0.cell 0 rfl
  have A1 := hA0.cell 1 rfl
  have B0 := hB0.cell 0 rfl
  have B1 := hB0.cell 1 rfl
  go_enter Try.func25, Try.ntmps25
  go_wp2_with fail
  refine (bok_spec (w.heap.size) 0 n v l _ A0 A1 hrA).mono ?_
  rintro e w1 ⟨rfl, hs1⟩
  have hz1 := hs1.size
  rw [hsz] at hz1
  clear hsz
  have hA1 := hA0.below hs1
  have hB1 := hB0.below hs1
  have hR1 := hR0.below hs1
  replace hrA := hrA.below hs1
  replace hrB := hrB.below hs1
  have hb1 := hb0.trans (hs1.mono hb0.size)
  clear hs1 hA0 hB0 hb0 A0 A1 B0 B1
  have A0 := hA1.cell 0 rfl
  have A1 := hA1.cell 1 rfl
  have B0 := hB1.cell 0 rfl
  have B1 := hB1.cell 1 rfl
  cases e1 : okB n l with
  | false =>
    have hR2 := hR1
    have hb2 := hb1
    have R0 := hR1.cell 0 rfl
    have R1 := hR1.cell 1 rfl
    have F0 := hR1.frozen 0
    have F1 := hR1.frozen 1
    have hcode : codeJ n l m k = 1 := by unfold codeJ; rw [e1]; simp
    have hn0 : nJ n l m k = 0 := by simp [nJ, hcode]
    have hl0 : lJ n l m k = [] := by simp [lJ, hcode]
    have g5 := (hR2.set 0 (.int .i64 0)).set 1 (.slice none 0 0)
    have g50 := g5.cell 0 rfl
    have g51 := g5.cell 1 rfl
    go_wp2_with fail
    refine bodyPost_ret (v := .tuple #[.agg #[.int .i64 0, .slice none 0 0], .int .i64 1]) (by simp [g50, g51, results, Try.results25, go_sem]) rfl ⟨_, by rw [hcode, hn0], by rw [hl0]; exact own_nilB _ _ _, (hb2.setCell (by simp; omega) _).setCell (by simp; omega) _⟩
  | true =>
  go_wp2_with fail
  refine (bok_spec (w.heap.size + 1) 0 m u k _ B0 B1 hrB).mono ?_
  rintro e w2 ⟨rfl, hs2⟩
  have hz2 := hs2.size
  have hA2 := hA1.below hs2
  have hB2 := hB1.below hs2
  have hR2 := hR1.below hs2
  replace hrA := hrA.below hs2
  replace hrB := hrB.below hs2
  have hb2 := hb1.trans (hs2.mono hb1.size)
  clear hs2 hA1 hB1 hb1 A0 A1 B0 B1
  have A0 := hA2.cell 0 rfl
  have A1 := hA2.cell 1 rfl
  have B0 := hB2.cell 0 rfl
  have B1 := hB2.cell 1 rfl
  have R0 := hR2.cell 0 rfl
  have R1 := hR2.cell 1 rfl
  have F0 := hR2.frozen 0
  have F1 := hR2.frozen 1
  cases e2 : okB m k with
  | false =>
    have hcode : codeJ n l m k = 1 := by unfold codeJ; rw [e1, e2]; simp
    have hn0 : nJ n l m k = 0 := by simp [nJ, hcode]
    have hl0 : lJ n l m k = [] := by simp [lJ, hcode]
    have g5 := (hR2.set 0 (.int .i64 0)).set 1 (.slice none 0 0)
    have g50 := g5.cell 0 rfl
    have g51 := g5.cell 1 rfl
    go_wp2_with fail
    refine bodyPost_ret (v := .tuple #[.agg #[.int .i64 0, .slice none 0 0], .int .i64 1]) (by simp [g50, g51, results, Try.results25, go_sem]) rfl ⟨_, by rw [hcode, hn0], by rw [hl0]; exact own_nilB _ _ _, (hb2.setCell (by simp; omega) _).setCell (by simp; omega) _⟩
  | true =>
  have q1 := (okB_of e1).2.2.1
  have q2 := (okB_of e2).2.2.1
  cases e3 : (n == m) with
  | false =>
    have e3' : (n != m) = true := by simp [bne, e3]
    have e3n := hid (show ¬ n = m by simpa using e3)
    have hcode : codeJ n l m k = 6 := by unfold codeJ; rw [e1, e2]; simp [e3n.out]
    have hn0 : nJ n l m k = 0 := by simp [nJ, hcode]
    have hl0 : lJ n l m k = [] := by simp [lJ, hcode]
    have g5 := (hR2.set 0 (.int .i64 0)).set 1 (.slice none 0 0)
    have g50 := g5.cell 0 rfl
    have g51 := g5.cell 1 rfl
    go_wp2_with fail
    refine bodyPost_ret (v := .tuple #[.agg #[.int .i64 0, .slice none 0 0], .int .i64 6]) (by simp [g50, g51, results, Try.results25, go_sem]) rfl ⟨_, by rw [hcode, hn0], by rw [hl0]; exact own_nilB _ _ _, (hb2.setCell (by simp; omega) _).setCell (by simp; omega) _⟩
  | true =>
    have e3' : (n != m) = false := by simp [bne, e3]
    have e3n := hid (show n = m by simpa using e3)
    by_cases h40 : (l.length : Int) + k.length ≤ 40
    case neg =>
      have hgt : (40 : Int) < (l.length : Int) + k.length := by omega
      have h40' := hid h40
      clear h40
      have hcode : codeJ n l m k = 5 := by unfold codeJ; rw [e1, e2]; simp [e3n.out, h40'.out]
      have hn0 : nJ n l m k = 0 := by simp [nJ, hcode]
      have hl0 : lJ n l m k = [] := by simp [lJ, hcode]
      have g5 := (hR2.set 0 (.int .i64 0)).set 1 (.slice none 0 0)
      have g50 := g5.cell 0 rfl
      have g51 := g5.cell 1 rfl
      go_wp2_with fail
      refine bodyPost_ret (v := .tuple #[.agg #[.int .i64 0, .slice none 0 0], .int .i64 5]) (by simp [g50, g51, results, Try.results25, go_sem]) rfl ⟨_, by rw [hcode, hn0], by rw [hl0]; exact own_nilB _ _ _, (hb2.setCell (by simp; omega) _).setCell (by simp; omega) _⟩
    case pos =>
      have hgt : ¬ (40 : Int) < (l.length : Int) + k.length := by omega
      have hcode := hid (show codeJ n l m k = 0 by unfold codeJ; rw [e1, e2]; simp [e3n.out, h40]) |>.out
      have hn0 : nJ n l m k = n := by simp [nJ, hcode]
      have hl0 : lJ n l m k = l ++ k := by simp [lJ, hcode]
      go_wp2_with fail
      have hC := hid (own_run v l w2.drew (hrA.drewN 1) (by omega))
      have hne1 : w.heap.size + 1 + 1 ≠ w.heap.size := by omega
      have hne2 : w.heap.size + 1 + 1 ≠ w.heap.size + 1 := by omega
      have hBr := hid (fun (w' : World) (hw : Below w2.heap.size w2 w') => hrB.below hw)
      have hK := hid (fun (w' : World) (hw : Below w2.heap.size w2 w') => (⟨(hA2.below hw).cell 0 rfl, (hA2.below hw).cell 1 rfl, (hB2.below hw).cell 1 rfl⟩ : w'.cell? ⟨w.heap.size, 0, none⟩ = some (.int .i64 n) ∧ w'.cell? ⟨w.heap.size, 1, none⟩ = some v ∧ w'.cell? ⟨w.heap.size + 1, 1, none⟩ = some u))
      have hR2' := hid hR2
      have hAB := hid (fun (w' : World) (hw : Below w2.heap.size w2 w') => (⟨hA2.below hw, hB2.below hw⟩ : _ ∧ _))
      have hdz : w2.drew.heap.size = w2.heap.size := rfl
      clear hA2 hB2 hR2 hrA hrB R0 R1 F0 F1
      go_region_held3 (fun w' => w'.cell? ⟨w.heap.size, 0, none⟩ = some (.int .i64 n) ∧ w'.cell? ⟨w.heap.size, 1, none⟩ = some v ∧ w'.cell? ⟨w.heap.size + 1, 1, none⟩ = some u) (first | exact hK.out _ (Below.refl _ _).drew | exact hK.out _ hbT | exact hK.out _ hbS | exact ⟨((hA4.other (a := ⟨w.heap.size + 1 + 1, 0, none⟩) hne1 _).other (a := ⟨w.heap.size + 1 + 1, 1, none⟩) hne1 _).cell 0 rfl, ((hA4.other (a := ⟨w.heap.size + 1 + 1, 0, none⟩) hne1 _).other (a := ⟨w.heap.size + 1 + 1, 1, none⟩) hne1 _).cell 1 rfl, ((hB4.other (a := ⟨w.heap.size + 1 + 1, 0, none⟩) hne2 _).other (a := ⟨w.heap.size + 1 + 1, 1, none⟩) hne2 _).cell 1 rfl⟩) ((first | (go_at_call 73; refine hC.out.mono ?_; rintro e w3 ⟨c, rfl, hc, hs3⟩; have hbS : Below w2.heap.size w2 w3 := (Below.refl _ w2).drew.trans hs3; obtain ⟨c', w4, hrun, hc', hg4⟩ := app_run (ty := 32) sliceI infoI rfl hc (hBr.out _ hbS) (oneCell_ints k) hbS.size (by simp; omega) (by decide); obtain ⟨ca, cn, cc, rfl⟩ := hc'.form3; have hbT : Below w2.heap.size w2 w4 := hbS.grown hg4 hbS.size (fun j hj => (hc.blk_lt hj).1); have hR4 := hR2'.out.below hbT; obtain ⟨hA4, hB4⟩ := hAB.out _ hbT; have R0 := hR4.cell 0 rfl; have R1 := hR4.cell 1 rfl; have F0 := hR4.frozen 0; have F1 := hR4.frozen 1) | (refine step_app hrun rfl (.tmp 32) (.tmp 34) rfl (by simp [Act.eval]) (by simp [Act.eval]) ?_)))
      all_goals
        have g5 := (hR4.set 0 (.int .i64 n)).set 1 (.slice ca cn cc)
        have g50 := g5.cell 0 rfl
        have g51 := g5.cell 1 rfl
        go_wp2_with fail
        refine bodyPost_ret (v := .tuple #[.agg #[.int .i64 n, .slice ca cn cc], .int .i64 0]) (by simp [g50, g51, results, Try.results25, go_sem]) rfl ⟨_, by rw [hcode, hn0], ?_, ((hb2.trans (hbT.mono hb2.size)).setCell (by simp; omega) _).setCell (by simp; omega) _⟩
        rw [hl0]
        have t1 := hc'.set_block (g := w.heap.size + 1 + 1) (by omega) 0 (.int .i64 n)
        have t2 := t1.set_block (g := w.heap.size + 1 + 1) (by omega) 1 (.slice ca cn cc)
        have t3 := t2.mono (B' := w.heap.size) (by omega)
        simpa [ints] using t3


end Go.Proofs.Ytmeccemnmkobbaa
