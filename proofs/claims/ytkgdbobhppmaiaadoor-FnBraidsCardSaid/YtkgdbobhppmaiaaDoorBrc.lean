/- Contracts: the laws' helpers on braids. -/
import Derived.Test.YtkgdbobhppmaiaaDoorBra
namespace Go.Proofs.YtkgdbobhppmaiaaDoor
open Go.RowKit

/-- what is left of a size -/
def szN (k : Nat) (left : Int) : Int := if left - k < 0 then -1 else left - k

set_option maxRecDepth 100000 in
set_option maxHeartbeats 1000000 in
theorem szI (v : Value) (l : List Int) (q : Int) (w : World) (h : Reads w v (ints l)) (q0 : -1 ≤ q) (q1 : q ≤ 1048576) :
    Calls Tryd.prog 58 #[v, .int .i64 q] w fun e w' => e = .returned (.int .i64 (szN l.length q)) ∧ w = w' := by
  have hs := h.small
  have hlen := h.len (P := Tryd.prog) 35 3 ⟨_, sliceI⟩
  simp only [length_ints] at hs hlen
  by_cases hq : q - (l.length : Int) < 0
  · have hz : szN l.length q = -1 := by simp [szN, hq]
    go_enter Tryd.func58, Tryd.ntmps58
    go_wp2_with fail
    go_ret
    exact ⟨by first | rfl | (rw [hz]; rfl), rfl⟩
  · have hz : szN l.length q = q - l.length := by simp [szN, hq]
    go_enter Tryd.func58, Tryd.ntmps58
    go_wp2_with fail
    go_ret
    exact ⟨by first | rfl | (rw [hz]; rfl), rfl⟩

set_option maxRecDepth 100000 in
set_option maxHeartbeats 1000000 in
theorem szB (n : Int) (v : Value) (l : List Int) (q : Int) (w : World) (h : Reads w v (ints l)) (q0 : -1 ≤ q) (q1 : q ≤ 1048576) :
    Calls Tryd.prog 22 #[.agg #[.int .i64 n, v], .int .i64 q] w fun e w' => e = .returned (.int .i64 (szN l.length q)) ∧ Below w.heap.size w w' := by
  have hr0 := reads_alloc h (.cells #[.int .i64 n, v] 37)
  have hbox : Below w.heap.size w (w.alloc (.cells #[.int .i64 n, v] 37)) := (Below.refl _ _).alloc (Nat.le_refl _) _
  go_enter Tryd.func22, Tryd.ntmps22
  go_wp2_with fail
  refine (szI _ _ _ _ hr0 (by omega) (by omega)).mono ?_
  rintro e w1 ⟨rfl, rfl⟩
  by_cases hq : szN l.length q < 0
  · have hz : szN l.length q = -1 := by unfold szN at *; split at hq <;> simp_all
    go_wp2_with fail
    go_ret
    exact ⟨by first | rfl | (rw [hz]; rfl), hbox⟩
  · go_wp2_with fail
    go_ret
    exact ⟨rfl, hbox⟩

set_option maxRecDepth 100000 in
set_option maxHeartbeats 1000000 in
theorem toB (n : Int) (v : Value) (l : List Int) (w : World) (h : Reads w v (ints l)) (hl : l.length ≤ 1048576) :
    Calls Tryd.prog 24 #[.agg #[.int .i64 n, v]] w fun e w' => ∃ u, e = .returned (.agg #[.int .i64 n, u]) ∧ Own w' w.heap.size 2 u (ints l) ∧ Below w.heap.size w w' := by
  go_enter Tryd.func24, Tryd.ntmps24
  go_wp2_with fail
  have hr3 := reads_alloc (reads_alloc (reads_alloc h (.cells #[.int .i64 n, v] 37)) (.cells #[.int .i64 0, .slice none 0 0] 40)) (.cells #[.int .i64 n, .slice none 0 0] 40)
  have hB1 := own_alloc (own_arr (w.alloc (.cells #[.int .i64 n, v] 37)) 40 #[.int .i64 0, .slice none 0 0] 2 rfl (by omega) (Nat.zero_le _)) (.cells #[.int .i64 n, .slice none 0 0] 40)
  have hB2 := own_arr ((w.alloc (.cells #[.int .i64 n, v] 37)).alloc (.cells #[.int .i64 0, .slice none 0 0] 40)) 40 #[.int .i64 n, .slice none 0 0] 2 rfl (by omega) (Nat.zero_le _)
  have hbox : Below w.heap.size w (((w.alloc (.cells #[.int .i64 n, v] 37)).alloc (.cells #[.int .i64 0, .slice none 0 0] 40)).alloc (.cells #[.int .i64 n, .slice none 0 0] 40)) := (((Below.refl _ _).alloc (Nat.le_refl _) _).alloc (by simp) _).alloc (by simp; omega) _
  generalize hW : (((w.alloc (.cells #[.int .i64 n, v] 37)).alloc (.cells #[.int .i64 0, .slice none 0 0] 40)).alloc (.cells #[.int .i64 n, .slice none 0 0] 40)) = w3 at *
  have hsz : w3.heap.size = w.heap.size + 1 + 1 + 1 := by rw [← hW]; simp
  simp only [World.size_alloc] at hB1 hB2
  refine (toI _ _ _ hr3 hl).mono ?_
  rintro e w4 ⟨u, rfl, ho, hs⟩
  have hb4 := hbox.trans (hs.mono (by omega))
  have c10 := (hB1.below hs).reads.cell 0 _ rfl
  have c11 := (hB1.below hs).reads.cell 1 _ rfl
  have c20 := (hB2.below hs).reads.cell 0 _ rfl
  have c21 := (hB2.below hs).reads.cell 1 _ rfl
  have f10 := (hB1.below hs).frozen (i := 0) (by simp)
  have f11 := (hB1.below hs).frozen (i := 1) (by simp)
  have f20 := (hB2.below hs).frozen (i := 0) (by simp)
  have f21 := (hB2.below hs).frozen (i := 1) (by simp)
  rw [adr_arr] at c10 c11 c20 c21 f10 f11 f20 f21
  have ho1 := ho.one
  have hblk : ∀ (y : Value) (k o : Nat) (w' : World), k < w3.heap.size → Own w' w3.heap.size 2 u (ints l) → Own (w'.setCell ⟨k, o, none⟩ y) w3.heap.size 2 u (ints l) := by
    intro y k o w' hk hw
    exact hw.keep fun j hj _ => Below.heap_setCell _ _ _ _ (fun e => by have := (hw.blk_lt hj).1; simp at e; omega)
  clear hB1 hB2 hW hr3
  obtain ⟨ua, uc, rfl, -⟩ := ho.reads.form
  go_wp2_with fail
  simp only [length_ints] at ho hblk ⊢
  have g5 : (w4.setCell ⟨w.heap.size + 1 + 1, 1, none⟩ (.slice ua l.length uc)).cell? ⟨w.heap.size + 1, 0, none⟩ = some (.int .i64 0) := by rw [World.cell?_setCell_other _ _ _ _ (by simp)]; exact c10
  have g5' : (w4.setCell ⟨w.heap.size + 1 + 1, 1, none⟩ (.slice ua l.length uc)).cell? ⟨w.heap.size + 1, 1, none⟩ = some (.slice none 0 0) := by rw [World.cell?_setCell_other _ _ _ _ (by simp)]; exact c11
  have g6 := World.cell?_setCell_same _ _ (.int .i64 n) g5
  have g6' : ((w4.setCell ⟨w.heap.size + 1 + 1, 1, none⟩ (.slice ua l.length uc)).setCell ⟨w.heap.size + 1, 0, none⟩ (.int .i64 n)).cell? ⟨w.heap.size + 1, 1, none⟩ = some (.slice none 0 0) := by rw [World.cell?_setCell_other _ _ _ _ (by simp)]; exact g5'
  have g7 := World.cell?_setCell_same _ _ (.slice ua l.length uc) g6'
  have g7' := (World.cell?_setCell_other ((w4.setCell ⟨w.heap.size + 1 + 1, 1, none⟩ (.slice ua l.length uc)).setCell ⟨w.heap.size + 1, 0, none⟩ (.int .i64 n)) ⟨w.heap.size + 1, 1, none⟩ ⟨w.heap.size + 1, 0, none⟩ (.slice ua l.length uc) (by simp)).trans g6
  refine bodyPost_ret (v := .agg #[.int .i64 n, .slice ua l.length uc]) (by simp [g7, g7', results, Tryd.results24, go_sem]) rfl ⟨_, rfl, ?_, ?_⟩
  · exact (hblk _ (w.heap.size + 1) _ _ (by omega) (hblk _ (w.heap.size + 1) _ _ (by omega) (hblk _ (w.heap.size + 1 + 1) _ _ (by omega) ho))).mono (by omega)
  · exact ((hb4.setCell (by simp; omega) _).setCell (by simp) _).setCell (by simp) _

set_option maxRecDepth 100000 in
set_option maxHeartbeats 1000000 in
theorem eqB (n m : Int) (v u : Value) (l k : List Int) (w : World) (h : Reads w v (ints l)) (h' : Reads w u (ints k)) :
    Calls Tryd.prog 26 #[.agg #[.int .i64 n, v], .agg #[.int .i64 m, u]] w fun e w' => e = .returned (.bool (n == m && decide (l = k))) ∧ Below w.heap.size w w' := by
  have hr0 := reads_alloc (reads_alloc h (.cells #[.int .i64 n, v] 40)) (.cells #[.int .i64 m, u] 40)
  have hr1 := reads_alloc (reads_alloc h' (.cells #[.int .i64 n, v] 40)) (.cells #[.int .i64 m, u] 40)
  have hbox : Below w.heap.size w ((w.alloc (.cells #[.int .i64 n, v] 40)).alloc (.cells #[.int .i64 m, u] 40)) := ((Below.refl _ _).alloc (Nat.le_refl _) _).alloc (by simp) _
  cases e1 : (n == m) with
  | false =>
    have e1' : (n != m) = true := by simpa [bne] using e1
    go_enter Tryd.func26, Tryd.ntmps26
    go_wp2_with fail
    go_ret
    exact ⟨rfl, hbox⟩
  | true =>
    have e1' : (n != m) = false := by simpa [bne] using e1
    go_enter Tryd.func26, Tryd.ntmps26
    go_wp2_with fail
    refine (eqI _ _ _ _ _ hr0 hr1).mono ?_
    rintro e w1 ⟨rfl, hs⟩
    cases e2 : decide (l = k) with
    | true =>
      go_wp2_with fail
      go_ret
      exact ⟨by first | rfl | (rw [e2]; rfl), hbox.trans (hs.mono (by simp; omega))⟩
    | false =>
      go_wp2_with fail
      go_ret
      exact ⟨by first | rfl | (rw [e2]; rfl), hbox.trans (hs.mono (by simp; omega))⟩

set_option maxRecDepth 100000 in
set_option maxHeartbeats 1000000 in
theorem markB (n : Int) (v : Value) (l : List Int) (q : Int) (w : World) {B : Nat} (h : Own w B 2 v (ints l)) (hl : l.length ≤ 1099511627776) (q0 : 0 ≤ q) (q1 : q ≤ 1099511627776) :
    Calls Tryd.prog 37 #[.agg #[.int .i64 n, v], .int .i64 q] w fun e w' => e = .returned (.int .i64 (q + l.length)) ∧ Own w' B 2 v (ints (marks l.length q)) ∧ w.grownBy w' (blk v) := by
  have hr0 := own_alloc h (.cells #[.int .i64 n, v] 40)
  have hbox : Below w.heap.size w (w.alloc (.cells #[.int .i64 n, v] 40)) := (Below.refl _ _).alloc (Nat.le_refl _) _
  go_enter Tryd.func37, Tryd.ntmps37
  go_wp2_with fail
  refine (markI _ _ _ _ hr0 hl q0 q1).mono ?_
  rintro e w1 ⟨rfl, ho, hs⟩
  go_wp2_with fail
  go_ret
  exact ⟨rfl, ho, grown_trans (grown_of_below hbox _) hs⟩

set_option maxRecDepth 100000 in
set_option maxHeartbeats 1000000 in
theorem heldB (n : Int) (v : Value) (m : Nat) (q : Int) (w : World) (h : Reads w v (ints (marks m q))) (hl : m ≤ 1099511627776) (q0 : 0 ≤ q) (q1 : q ≤ 1099511627776) :
    Calls Tryd.prog 38 #[.agg #[.int .i64 n, v], .int .i64 q] w fun e w' => e = .returned (.int .i64 (q + m)) ∧ Below w.heap.size w w' := by
  have hr0 := reads_alloc h (.cells #[.int .i64 n, v] 40)
  have hbox : Below w.heap.size w (w.alloc (.cells #[.int .i64 n, v] 40)) := (Below.refl _ _).alloc (Nat.le_refl _) _
  go_enter Tryd.func38, Tryd.ntmps38
  go_wp2_with fail
  refine (heldI _ _ _ _ hr0 hl q0 q1).mono ?_
  rintro e w1 ⟨rfl, hs⟩
  go_wp2_with fail
  go_ret
  exact ⟨rfl, hbox.trans (hs.mono (by simp))⟩


end Go.Proofs.YtkgdbobhppmaiaaDoor
