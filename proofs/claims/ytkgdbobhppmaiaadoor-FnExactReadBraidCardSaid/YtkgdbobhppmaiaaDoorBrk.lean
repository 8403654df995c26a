/- Contracts: joined braids. -/
import Derived.Test.YtkgdbobhppmaiaaDoorBrh
import Derived.Test.YtkgdbobhppmaiaaDoorCat
import Derived.Deep.RegionHeld3
namespace Go.Proofs.YtkgdbobhppmaiaaDoor
open Go.RowKit

/-- whether two braids can be joined, with the code that says so -/
def codeJ (n : Int) (l : List Int) (m : Int) (k : List Int) : Int := if okB n l && okB m k then (if n = m then (if (l.length : Int) + k.length ≤ 40 then 0 else 5) else 6) else 1
def nJ (n : Int) (l : List Int) (m : Int) (k : List Int) : Int := if codeJ n l m k = 0 then n else 0
def lJ (n : Int) (l : List Int) (m : Int) (k : List Int) : List Int := if codeJ n l m k = 0 then l ++ k else []


theorem reads_new (w : World) (cs : Array Value) (e : TypeId) (h : cs.size ≤ 9223372036854775807 := by simp) : Reads (w.alloc (.cells cs e)) (.slice (some ⟨w.heap.size, 0, none⟩) cs.size cs.size) cs.toList := by
  refine ⟨⟨some ⟨w.heap.size, 0, none⟩, cs.size, by simp, by simp⟩, by simpa using h, by rintro a n c e; cases e; exact Nat.le_refl _, ?_⟩
  intro i y hy
  show (w.alloc _).cell? ((⟨w.heap.size, 0, none⟩ : Addr).add i) = _
  rw [add_lit, Nat.zero_add, World.cell?_alloc_new]
  simpa using hy


set_option maxRecDepth 100000 in
set_option maxHeartbeats 8000000 in
theorem vjoin_impl (n : Int) (v : Value) (l : List Int) (m : Int) (u : Value) (k : List Int) (w : World) (h : Reads w v (ints l)) (h' : Reads w u (ints k)) :
    Calls Tryd.prog 40 #[.agg #[.int .i64 n, v], .agg #[.int .i64 m, u]] w fun e w' => ∃ x, e = .returned (.tuple #[.agg #[.int .i64 (nJ n l m k), x], .int .i64 (codeJ n l m k)]) ∧ Own w' w.heap.size 2 x (ints (lJ n l m k)) ∧ Below w.heap.size w w' := by
  have hs := h.small
  have hs' := h'.small
  have hlen := h.len (P := Tryd.prog) 35 3 ⟨_, sliceI⟩
  have hlen' := h'.len (P := Tryd.prog) 35 3 ⟨_, sliceI⟩
  simp only [length_ints] at hs hlen hs' hlen'
  have hA0 := ((Bx.new w #[.int .i64 n, v] 40).alloc (.cells #[.int .i64 m, u] 40)).alloc (.cells #[.int .i64 0, .slice none 0 0] 40)
  have hB0 := (Bx.new (w.alloc (.cells #[.int .i64 n, v] 40)) #[.int .i64 m, u] 40).alloc (.cells #[.int .i64 0, .slice none 0 0] 40)
  have hR0 := Bx.new ((w.alloc (.cells #[.int .i64 n, v] 40)).alloc (.cells #[.int .i64 m, u] 40)) #[.int .i64 0, .slice none 0 0] 40
  have hrA := reads_alloc (reads_alloc (reads_alloc h (.cells #[.int .i64 n, v] 40)) (.cells #[.int .i64 m, u] 40)) (.cells #[.int .i64 0, .slice none 0 0] 40)
  have hrB := reads_alloc (reads_alloc (reads_alloc h' (.cells #[.int .i64 n, v] 40)) (.cells #[.int .i64 m, u] 40)) (.cells #[.int .i64 0, .slice none 0 0] 40)
  have hb0 : Below w.heap.size w (((w.alloc (.cells #[.int .i64 n, v] 40)).alloc (.cells #[.int .i64 m, u] 40)).alloc (.cells #[.int .i64 0, .slice none 0 0] 40)) := (((Below.refl _ _).alloc (Nat.le_refl _) _).alloc (by simp) _).alloc (by simp; omega) _
  simp only [World.size_alloc] at hB0 hR0
  have hsz : (((w.alloc (.cells #[.int .i64 n, v] 40)).alloc (.cells #[.int .i64 m, u] 40)).alloc (.cells #[.int .i64 0, .slice none 0 0] 40)).heap.size = w.heap.size + 3 := by simp
  have A0 := hA0.cell 0 rfl
  have A1 := hA0.cell 1 rfl
  have B0 := hB0.cell 0 rfl
  have B1 := hB0.cell 1 rfl
  go_enter Tryd.func40, Tryd.ntmps40
  go_wp2_with fail
  refine (vb_impl n v l _ hrA).mono ?_
  rintro e w1 ⟨rfl, hs1⟩
  have hz1 := hs1.size
  rw [hsz] at hz1
  clear hsz
  have hA1 := hA0.below hs1
  have hB1 := hB0.below hs1
  have hR1 := hR0.below hs1
  replace hrA := hrA.below hs1
  replace hrB := hrB.below hs1
  have hb1 := hb0.trans (hs1.mono hb0.size)
  clear hs1 hA0 hB0 hb0 A0 A1 B0 B1
  have A0 := hA1.cell 0 rfl
  have A1 := hA1.cell 1 rfl
  have B0 := hB1.cell 0 rfl
  have B1 := hB1.cell 1 rfl
  cases e1 : okB n l with
  | false =>
    have hR2 := hR1
    have hb2 := hb1
    have R0 := hR1.cell 0 rfl
    have R1 := hR1.cell 1 rfl
    have F0 := hR1.frozen 0
    have F1 := hR1.frozen 1
    have hcode : codeJ n l m k = 1 := by unfold codeJ; rw [e1]; simp
    have hn0 : nJ n l m k = 0 := by simp [nJ, hcode]
    have hl0 : lJ n l m k = [] := by simp [lJ, hcode]
    have g5 := (hR2.set 0 (.int .i64 0)).set 1 (.slice none 0 0)
    have g50 := g5.cell 0 rfl
    have g51 := g5.cell 1 rfl
    go_wp2_with fail
    refine bodyPost_ret (v := .tuple #[.agg #[.int .i64 0, .slice none 0 0], .int .i64 1]) (by simp [g50, g51, results, Tryd.results40, go_sem]) rfl ⟨_, by rw [hcode, hn0], by rw [hl0]; exact own_nilB _ _ _, (hb2.setCell (by simp; omega) _).setCell (by simp; omega) _⟩
  | true =>
  go_wp2_with fail
  refine (vb_impl m u k _ hrB).mono ?_
  rintro e w2 ⟨rfl, hs2⟩
  have hz2 := hs2.size
  have hA2 := hA1.below hs2
  have hB2 := hB1.below hs2
  have hR2 := hR1.below hs2
  replace hrA := hrA.below hs2
  replace hrB := hrB.below hs2
  have hb2 := hb1.trans (hs2.mono hb1.size)
  clear hs2 hA1 hB1 hb1 A0 A1 B0 B1
  have A0 := hA2.cell 0 rfl
  have A1 := hA2.cell 1 rfl
  have B0 := hB2.cell 0 rfl
  have B1 := hB2.cell 1 rfl
  have R0 := hR2.cell 0 rfl
  have R1 := hR2.cell 1 rfl
  have F0 := hR2.frozen 0
  have F1 := hR2.frozen 1
  cases e2 : okB m k with
  | false =>
    have hcode : codeJ n l m k = 1 := by unfold codeJ; rw [e1, e2]; simp
    have hn0 : nJ n l m k = 0 := by simp [nJ, hcode]
    have hl0 : lJ n l m k = [] := by simp [lJ, hcode]
    have g5 := (hR2.set 0 (.int .i64 0)).set 1 (.slice none 0 0)
    have g50 := g5.cell 0 rfl
    have g51 := g5.cell 1 rfl
    go_wp2_with fail
    refine bodyPost_ret (v := .tuple #[.agg #[.int .i64 0, .slice none 0 0], .int .i64 1]) (by simp [g50, g51, results, Tryd.results40, go_sem]) rfl ⟨_, by rw [hcode, hn0], by rw [hl0]; exact own_nilB _ _ _, (hb2.setCell (by simp; omega) _).setCell (by simp; omega) _⟩
  | true =>
  have q1 := (okB_of e1).2.2.1
  have q2 := (okB_of e2).2.2.1
  cases e3 : (n == m) with
  | false =>
    have e3' : (n != m) = true := by simp [bne, e3]
    have e3n := hid (show ¬ n = m by simpa using e3)
    have hcode : codeJ n l m k = 6 := by unfold codeJ; rw [e1, e2]; simp [e3n.out]
    have hn0 : nJ n l m k = 0 := by simp [nJ, hcode]
    have hl0 : lJ n l m k = [] := by simp [lJ, hcode]
    have g5 := (hR2.set 0 (.int .i64 0)).set 1 (.slice none 0 0)
    have g50 := g5.cell 0 rfl
    have g51 := g5.cell 1 rfl
    go_wp2_with fail
    refine bodyPost_ret (v := .tuple #[.agg #[.int .i64 0, .slice none 0 0], .int .i64 6]) (by simp [g50, g51, results, Tryd.results40, go_sem]) rfl ⟨_, by rw [hcode, hn0], by rw [hl0]; exact own_nilB _ _ _, (hb2.setCell (by simp; omega) _).setCell (by simp; omega) _⟩
  | true =>
    have e3' : (n != m) = false := by simp [bne, e3]
    have e3n := hid (show n = m by simpa using e3)
    by_cases h40 : (l.length : Int) + k.length ≤ 40
    case neg =>
      have hgt : (40 : Int) < (l.length : Int) + k.length := by omega
      have h40' := hid h40
      clear h40
      have hcode : codeJ n l m k = 5 := by unfold codeJ; rw [e1, e2]; simp [e3n.out, h40'.out]
      have hn0 : nJ n l m k = 0 := by simp [nJ, hcode]
      have hl0 : lJ n l m k = [] := by simp [lJ, hcode]
      have g5 := (hR2.set 0 (.int .i64 0)).set 1 (.slice none 0 0)
      have g50 := g5.cell 0 rfl
      have g51 := g5.cell 1 rfl
      go_wp2_with fail
      refine bodyPost_ret (v := .tuple #[.agg #[.int .i64 0, .slice none 0 0], .int .i64 5]) (by simp [g50, g51, results, Tryd.results40, go_sem]) rfl ⟨_, by rw [hcode, hn0], by rw [hl0]; exact own_nilB _ _ _, (hb2.setCell (by simp; omega) _).setCell (by simp; omega) _⟩
    case pos =>
      have hgt : ¬ (40 : Int) < (l.length : Int) + k.length := by omega
      have hcode := hid (show codeJ n l m k = 0 by unfold codeJ; rw [e1, e2]; simp [e3n.out, h40]) |>.out
      have hn0 : nJ n l m k = n := by simp [nJ, hcode]
      have hl0 : lJ n l m k = l ++ k := by simp [lJ, hcode]
      go_wp2_with fail
      have hne1 : w.heap.size + 1 + 1 ≠ w.heap.size := by omega
      have hne2 : w.heap.size + 1 + 1 ≠ w.heap.size + 1 := by omega
      obtain ⟨va, vc, hv, -⟩ := h.form
      obtain ⟨ua, uc, hu, -⟩ := h'.form
      simp only [length_ints] at hv hu
      subst hv hu
      have hX : ReadsII (w2.alloc (.cells #[.slice va l.length vc, .slice ua k.length uc] 35)).drew (.slice (some ⟨w2.heap.size, 0, none⟩) 2 2) [l, k] := ReadsII.drewN ⟨[.slice va l.length vc, .slice ua k.length uc], reads_new w2 #[.slice va l.length vc, .slice ua k.length uc] _, rfl, fun i hi => by
        match i, hi with
        | 0, _ => exact reads_alloc hrA _
        | 1, _ => exact reads_alloc hrB _⟩ 1
      have hC := hid (concat_run _ _ _ hX (by simp [tot]; omega))
      have hbS : Below w2.heap.size w2 (w2.alloc (.cells #[.slice va l.length vc, .slice ua k.length uc] 35)).drew := ((Below.refl _ w2).alloc (Nat.le_refl _) _).drew
      have hR2' := hid hR2
      have hAB := hid (fun (w' : World) (hw : Below w2.heap.size w2 w') => (⟨hA2.below hw, hB2.below hw⟩ : _ ∧ _))
      have hK := hid (fun (w' : World) (hw : Below w2.heap.size w2 w') => (⟨(hA2.below hw).cell 0 rfl, (hA2.below hw).cell 1 rfl, (hB2.below hw).cell 1 rfl⟩ : w'.cell? ⟨w.heap.size, 0, none⟩ = some (.int .i64 n) ∧ w'.cell? ⟨w.heap.size, 1, none⟩ = some (.slice va l.length vc) ∧ w'.cell? ⟨w.heap.size + 1, 1, none⟩ = some (.slice ua k.length uc)))
      have hdz : (w2.alloc (.cells #[.slice va l.length vc, .slice ua k.length uc] 35)).drew.heap.size = w2.heap.size + 1 := World.size_alloc _ _
      clear hA2 hB2 hR2 hrA hrB R0 R1 F0 F1 hX
      go_region_held3 (fun w' => w'.cell? ⟨w.heap.size, 0, none⟩ = some (.int .i64 n) ∧ w'.cell? ⟨w.heap.size, 1, none⟩ = some (.slice va l.length vc) ∧ w'.cell? ⟨w.heap.size + 1, 1, none⟩ = some (.slice ua k.length uc)) (first | exact hK.out _ (Below.refl _ _).drew | exact hK.out _ hbS | exact hK.out _ hbT | exact ⟨((hA4.other (a := ⟨w.heap.size + 1 + 1, 0, none⟩) hne1 _).other (a := ⟨w.heap.size + 1 + 1, 1, none⟩) hne1 _).cell 0 rfl, ((hA4.other (a := ⟨w.heap.size + 1 + 1, 0, none⟩) hne1 _).other (a := ⟨w.heap.size + 1 + 1, 1, none⟩) hne1 _).cell 1 rfl, ((hB4.other (a := ⟨w.heap.size + 1 + 1, 0, none⟩) hne2 _).other (a := ⟨w.heap.size + 1 + 1, 1, none⟩) hne2 _).cell 1 rfl⟩) ((first | (go_at_call 75; refine hC.out.mono ?_; rintro e w4 ⟨c', rfl, hc', hs4⟩; obtain ⟨ca, cn, cc, rfl⟩ := hc'.form3; have hbT : Below w2.heap.size w2 w4 := hbS.trans (hs4.mono hbS.size); have hR4 := hR2'.out.below hbT; obtain ⟨hA4, hB4⟩ := hAB.out _ hbT; have R0 := hR4.cell 0 rfl; have R1 := hR4.cell 1 rfl; have F0 := hR4.frozen 0; have F1 := hR4.frozen 1)))
      all_goals
        have g5 := (hR4.set 0 (.int .i64 n)).set 1 (.slice ca cn cc)
        have g50 := g5.cell 0 rfl
        have g51 := g5.cell 1 rfl
        go_wp2_with fail
        refine bodyPost_ret (v := .tuple #[.agg #[.int .i64 n, .slice ca cn cc], .int .i64 0]) (by simp [g50, g51, results, Tryd.results40, go_sem]) rfl ⟨_, by rw [hcode, hn0], ?_, ((hb2.trans (hbT.mono hb2.size)).setCell (by simp; omega) _).setCell (by simp; omega) _⟩
        rw [hl0]
        have t1 := hc'.set_block (g := w.heap.size + 1 + 1) (by omega) 0 (.int .i64 n)
        have t2 := t1.set_block (g := w.heap.size + 1 + 1) (by omega) 1 (.slice ca cn cc)
        have t3 := t2.mono (B' := w.heap.size) (by omega)
        simpa using t3


end Go.Proofs.YtkgdbobhppmaiaaDoor
