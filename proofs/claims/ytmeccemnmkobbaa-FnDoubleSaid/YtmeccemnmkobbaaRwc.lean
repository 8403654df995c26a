/- Contracts: reduced words and braids of permutations. -/
import Derived.Test.YtmeccemnmkobbaaRwb
import Derived.Test.YtmeccemnmkobbaaBx
import Derived.Test.YtmeccemnmkobbaaWpg
namespace Go.Proofs.Ytmeccemnmkobbaa
open Go.RowKit

theorem headL_mem {l : List Int} {x : Int} (h : x ∈ headL l) : 0 ≤ x ∧ x + 1 < l.length := by
  unfold headL at h
  split at h
  · simp at h
  · rename_i k r e
    obtain rfl : x = k := by simpa using h
    obtain ⟨j, rfl, hj, _⟩ := mem_descF (l := l) (x := x) (by rw [e]; simp)
    omega
theorem outAt_mem {l : List Int} {t : Nat} {x : Int} (h : x ∈ outAt l t) : 0 ≤ x ∧ x + 1 < l.length := by
  induction t with
  | zero => simp [outAt] at h
  | succ t ih =>
    rw [outAt, List.mem_append] at h
    rcases h with h | h
    · exact ih h
    · have := headL_mem h; simpa using this
theorem outAt_len (l : List Int) (t : Nat) : (outAt l t).length ≤ t := by
  induction t with
  | zero => simp [outAt]
  | succ t ih =>
    have : (headL (curAt l t)).length ≤ 1 := by unfold headL; split <;> simp
    rw [outAt, List.length_append]; omega
theorem nth_mem {l : List Int} {i : Nat} (h : i < l.length) : nth l i ∈ l := by simp [nth, h]
theorem redF_bd {l : List Int} (i : Nat) (h : i < (redF l).length) : 0 ≤ nth (redF l) i ∧ nth (redF l) i + 1 < l.length := outAt_mem (nth_mem h)
theorem redF_len (l : List Int) : ((redF l).length : Int) ≤ invsF l := by
  have := outAt_len l (invsF l).toNat
  have := invsF_nonneg l
  unfold redF; omega
theorem invs_small {l : List Int} (h : l.length ≤ 12) : invsF l ≤ 144 := by
  rw [invsF_eq]
  exact (sum_bd _ h fun j hj => cnt_bd _ (by omega)).2
/-- whether a permutation has a braid, with the code that says so -/
def codePB (l : List Int) : Int := if okP l then (if (lettersF l).length ≤ 40 then 0 else 5) else 1
def nPB (l : List Int) : Int := if codePB l = 0 then l.length else 0
def lPB (l : List Int) : List Int := if codePB l = 0 then lettersF l else []
@[simp] theorem length_lettersF (l : List Int) : (lettersF l).length = (redF l).length := by simp [lettersF]


set_option maxRecDepth 100000 in
set_option maxHeartbeats 2000000 in
theorem pb_impl (v : Value) (l : List Int) (w : World) (h : Reads w v (ints l)) :
    Calls Try.prog 19 #[v] w fun e w' => ∃ x, e = .returned (.tuple #[.agg #[.int .i64 (nPB l), x], .int .i64 (codePB l)]) ∧ Own w' w.heap.size 2 x (ints (lPB l)) ∧ Below w.heap.size w w' := by
  have hs := h.small
  have hlen := h.len (P := Try.prog) 32 3 ⟨_, sliceI⟩
  simp only [length_ints] at hs hlen
  have hR0 := Bx.new w #[.int .i64 0, .slice none 0 0] 35
  have hb0 : Below w.heap.size w (w.alloc (.cells #[.int .i64 0, .slice none 0 0] 35)) := (Below.refl _ _).alloc (Nat.le_refl _) _
  go_enter Try.func19, Try.ntmps19
  go_wp2_with fail
  refine (ok_impl _ _ _ (reads_alloc h _)).mono ?_
  rintro e w1 ⟨rfl, hb1⟩
  have hb := hb0.trans (hb1.mono hb0.size)
  have hz1 := hb1.size
  rw [World.size_alloc] at hz1
  have hR := hR0.below hb1
  clear hb0 hb1 hR0
  cases e1 : okP l with
  | false =>
    have hcode : codePB l = 1 := by unfold codePB; rw [e1]; rfl
    have hn0 : nPB l = 0 := by simp [nPB, hcode]
    have hl0 : lPB l = [] := by simp [lPB, hcode]
    have R0 := hR.cell 0 rfl
    have R1 := hR.cell 1 rfl
    have F0 := hR.frozen 0
    have F1 := hR.frozen 1
    have g5 := (hR.set 0 (.int .i64 0)).set 1 (.slice none 0 0)
    have g50 := g5.cell 0 rfl
    have g51 := g5.cell 1 rfl
    go_wp2_with fail
    refine bodyPost_ret (v := .tuple #[.agg #[.int .i64 0, .slice none 0 0], .int .i64 1]) (by simp [g50, g51, results, Try.results19, go_sem]) rfl ⟨_, by rw [hcode, hn0], by rw [hl0]; exact Own.nilv _ _ _, (hb.setCell (by simp) _).setCell (by simp) _⟩
  | true =>
    obtain ⟨q1, q2⟩ := okP_of e1
    have hi := invs_small q1
    have hlr := redF_len l
    have hC := letters_impl4 v l w1 (h.below hb) (by omega) (by omega) (by omega) (fun i hi => by have := redF_bd i hi; omega)
    clear q2
    have hR' := hR
    clear hR
    go_wp2_with fail
    refine hC.mono ?_
    rintro e w2 ⟨x, rfl, ho, hb2⟩
    have hbb := hb.trans (hb2.mono hb.size)
    have hR := hR'.below hb2
    have hlx := ho.reads.len (P := Try.prog) 32 3 ⟨_, sliceI⟩
    simp only [length_ints] at hlx
    clear hC hR' hb2 hb
    have hb := hbb
    clear hbb
    have R0 := hR.cell 0 rfl
    have R1 := hR.cell 1 rfl
    have F0 := hR.frozen 0
    have F1 := hR.frozen 1
    by_cases h40 : (lettersF l).length ≤ 40
    · have hcode : codePB l = 0 := by unfold codePB; rw [e1]; simp at h40; simp [h40]
      have hn0 : nPB l = l.length := by simp [nPB, hcode]
      have hl0 : lPB l = lettersF l := by simp [lPB, hcode]
      have hgt : ¬ ((40 : Int) < (((lettersF l).length : Nat) : Int)) := by omega
      obtain ⟨xa, xn, xc, rfl⟩ : ∃ a n c, x = .slice a n c := by obtain ⟨a, c, rfl, -⟩ := ho.reads.form; exact ⟨a, _, c, rfl⟩
      have g5 := (hR.set 0 (.int .i64 l.length)).set 1 (.slice xa xn xc)
      have g50 := g5.cell 0 rfl
      have g51 := g5.cell 1 rfl
      generalize lettersF l = L at *
      go_wp2_with fail
      refine bodyPost_ret (v := .tuple #[.agg #[.int .i64 l.length, .slice xa xn xc], .int .i64 0]) (by simp [g50, g51, results, Try.results19, go_sem]) rfl ⟨_, by rw [hcode, hn0], ?_, (hb.setCell (by simp) _).setCell (by simp) _⟩
      rw [hl0]
      have t1 := ho.set_block (g := w.heap.size) (by omega) 0 (.int .i64 l.length)
      have t2 := t1.set_block (g := w.heap.size) (by omega) 1 (.slice xa xn xc)
      exact t2.mono (by omega)
    · have hcode : codePB l = 5 := by unfold codePB; rw [e1]; simp at h40; simp; omega
      have hn0 : nPB l = 0 := by simp [nPB, hcode]
      have hl0 : lPB l = [] := by simp [lPB, hcode]
      have hgt : ((40 : Int) < (((lettersF l).length : Nat) : Int)) := by omega
      generalize lettersF l = L at *
      have g5 := (hR.set 0 (.int .i64 0)).set 1 (.slice none 0 0)
      have g50 := g5.cell 0 rfl
      have g51 := g5.cell 1 rfl
      go_wp2_with fail
      refine bodyPost_ret (v := .tuple #[.agg #[.int .i64 0, .slice none 0 0], .int .i64 5]) (by simp [g50, g51, results, Try.results19, go_sem]) rfl ⟨_, by rw [hcode, hn0], by rw [hl0]; exact Own.nilv _ _ _, (hb.setCell (by simp) _).setCell (by simp) _⟩


end Go.Proofs.Ytmeccemnmkobbaa
