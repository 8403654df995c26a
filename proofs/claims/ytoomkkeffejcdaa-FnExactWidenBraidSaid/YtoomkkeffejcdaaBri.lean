/- Contracts: widened braids. -/
import Derived.Test.YtoomkkeffejcdaaBrh
namespace Go.Proofs.Ytoomkkeffejcdaa
open Go.RowKit

/-- a letter with so many strands on the left -/
def widL (a k : Int) : Int := if 0 < k then k + a else k - a
theorem widL_pos {a k : Int} (h : 0 < k) : widL a k = k + a := by simp [widL, h]
theorem widL_neg {a k : Int} (h : ¬ 0 < k) : widL a k = k - a := by simp [widL, h]
/-- whether so many strands can be added -/
def okWid (n : Int) (l : List Int) (a b : Int) : Bool := okB n l && (inB a 0 12 && inB b 0 12) && decide (n + a + b ≤ 12)
def codeWid (n : Int) (l : List Int) (a b : Int) : Int := if okB n l then (if inB a 0 12 && inB b 0 12 then (if n + a + b ≤ 12 then 0 else 5) else 2) else 1
def nWid (n : Int) (l : List Int) (a b : Int) : Int := if okWid n l a b then n + a + b else 0
def lWid (n : Int) (l : List Int) (a b : Int) : List Int := if okWid n l a b then l.map (widL a) else []
theorem in_bd {x : Int} (h : inB x 0 12 = true) : 0 ≤ x ∧ x ≤ 12 := inB_yes' h


set_option maxHeartbeats 4000000 in
theorem vwid_impl (n : Int) (v : Value) (l : List Int) (a b : Int) (w : World) (h : Reads w v (ints l)) :
    Calls Try.prog 32 #[.agg #[.int .i64 n, v], .int .i64 a, .int .i64 b] w fun e w' => ∃ u, e = .returned (.tuple #[.agg #[.int .i64 (nWid n l a b), u], .int .i64 (codeWid n l a b)]) ∧ Own w' w.heap.size 2 u (ints (lWid n l a b)) ∧ Below w.heap.size w w' := by
  have hs := h.small
  have hlen := h.len (P := Try.prog) 22 3 ⟨_, sliceI⟩
  simp only [length_ints] at hs hlen
  have hA0 := Bx.alloc (Bx.new w #[.int .i64 n, v] 27) (.cells #[.int .i64 0, .slice none 0 0] 27)
  have hR0 := Bx.new (w.alloc (.cells #[.int .i64 n, v] 27)) #[.int .i64 0, .slice none 0 0] 27
  have hr0 := reads_alloc (reads_alloc h (.cells #[.int .i64 n, v] 27)) (.cells #[.int .i64 0, .slice none 0 0] 27)
  have hb0 : Below w.heap.size w ((w.alloc (.cells #[.int .i64 n, v] 27)).alloc (.cells #[.int .i64 0, .slice none 0 0] 27)) := ((Below.refl _ _).alloc (Nat.le_refl _) _).alloc (by simp) _
  have A00 := hA0.cell 0 rfl
  have A01 := hA0.cell 1 rfl
  go_enter Try.func32, Try.ntmps32
  go_wp2_with fail
  refine (vb_impl n v l _ hr0).mono ?_
  rintro e w1 ⟨rfl, hs1⟩
  have hb1 := hb0.trans (hs1.mono hb0.size)
  have hA1 := hA0.below hs1
  have hR1 := hR0.below hs1
  have hr1 := hr0.below hs1
  have hz1 := hR1.lt
  simp only [World.size_alloc] at hz1 hA1 hR1
  clear hs1 hb0 hA0 hR0 hr0 A00 A01
  have A10 := hA1.cell 0 rfl
  have A11 := hA1.cell 1 rfl
  have R10 := hR1.cell 0 rfl
  have R11 := hR1.cell 1 rfl
  have F10 := hR1.frozen 0
  have F11 := hR1.frozen 1
  cases e1 : okB n l with
  | false =>
    have g5 := (hR1.set 0 (.int .i64 0)).set 1 (.slice none 0 0)
    have g50 := g5.cell 0 rfl
    have g51 := g5.cell 1 rfl
    go_wp2_with fail
    refine bodyPost_ret (v := .tuple #[.agg #[.int .i64 0, .slice none 0 0], .int .i64 1]) (by simp [g50, g51, results, Try.results32, go_sem]) rfl ⟨_, by simp [nWid, codeWid, okWid, e1]; rfl, by simp only [lWid, okWid, e1]; exact own_nil _ _ _, (hb1.setCell (by simp) _).setCell (by simp) _⟩
  | true =>
  cases ea : inB a 0 12 with
  | false =>
    have g5 := (hR1.set 0 (.int .i64 0)).set 1 (.slice none 0 0)
    have g50 := g5.cell 0 rfl
    have g51 := g5.cell 1 rfl
    go_wp2_with (go_at_call 52; refine (strands_impl _ _).mono ?_; rintro e w2 ⟨rfl, rfl⟩; first | rw [ea] | rw [eb])
    refine bodyPost_ret (v := .tuple #[.agg #[.int .i64 0, .slice none 0 0], .int .i64 2]) (by simp [g50, g51, results, Try.results32, go_sem]) rfl ⟨_, by simp [nWid, codeWid, okWid, e1, ea]; rfl, by simp only [lWid, okWid, e1, ea]; exact own_nil _ _ _, (hb1.setCell (by simp) _).setCell (by simp) _⟩
  | true =>
  cases eb : inB b 0 12 with
  | false =>
    have g5 := (hR1.set 0 (.int .i64 0)).set 1 (.slice none 0 0)
    have g50 := g5.cell 0 rfl
    have g51 := g5.cell 1 rfl
    go_wp2_with (go_at_call 52; refine (strands_impl _ _).mono ?_; rintro e w2 ⟨rfl, rfl⟩; first | rw [ea] | rw [eb])
    refine bodyPost_ret (v := .tuple #[.agg #[.int .i64 0, .slice none 0 0], .int .i64 2]) (by simp [g50, g51, results, Try.results32, go_sem]) rfl ⟨_, by simp [nWid, codeWid, okWid, e1, ea, eb]; rfl, by simp only [lWid, okWid, e1, ea, eb]; exact own_nil _ _ _, (hb1.setCell (by simp) _).setCell (by simp) _⟩
  | true =>
    obtain ⟨q0, q1, q2, q3⟩ := okB_of e1
    obtain ⟨a0, a1⟩ := in_bd ea
    obtain ⟨b0, b1⟩ := in_bd eb
    by_cases h12 : n + a + b ≤ 12
    case neg =>
      have hno : decide (n + a + b ≤ 12) = false := by simp; omega
      have hgt : (12 : Int) < n + a + b := by omega
      have hh := hid (show (12 : Int) < n + a + b by omega)
      have g5 := ((hR1.set 0 (.int .i64 0)).set 1 (.slice none 0 0))
      have g50 := g5.cell 0 rfl
      have g51 := g5.cell 1 rfl
      clear q3
      go_wp2_with (go_at_call 52; refine (strands_impl _ _).mono ?_; rintro e w2 ⟨rfl, rfl⟩; first | rw [ea] | rw [eb])
      refine bodyPost_ret (v := .tuple #[.agg #[.int .i64 0, .slice none 0 0], .int .i64 5]) (by simp [g50, g51, results, Try.results32, go_sem]) rfl ⟨_, by simp [nWid, codeWid, okWid, e1, ea, eb, Int.not_le.2 hh.out]; rfl, by simp only [lWid, okWid, e1, ea, eb, hno]; exact own_nil _ _ _, (hb1.setCell (by simp) _).setCell (by simp) _⟩
    case pos =>
      have hle : ¬ (12 : Int) < n + a + b := by omega
      have hyes : decide (n + a + b ≤ 12) = true := by simp; omega
      have hAa := hA1.alloc (.cells #[.int .i64 (n + a + b), .slice none 0 0] 27)
      have hOa := Bx.new w1 #[.int .i64 (n + a + b), .slice none 0 0] 27
      have B10 := hAa.cell 0 rfl
      have B11 := hAa.cell 1 rfl
      have hQ3 := hid q3
      clear q3
      go_wp2_with (go_at_call 52; refine (strands_impl _ _).mono ?_; rintro e w2 ⟨rfl, rfl⟩; first | rw [ea] | rw [eb])
      go_loopw [10, 45] (fun _ i wr => ∃ (k : Nat) (u : Value), k ≤ l.length ∧ i = .int .i64 k ∧ Below w.heap.size w wr ∧ Bx wr w.heap.size [.int .i64 n, v] ∧ Bx wr (w.heap.size + 1) [.int .i64 0, .slice none 0 0] ∧ Bx wr w1.heap.size [.int .i64 (n + a + b), u] ∧ Own wr (w1.heap.size + 1) 2 u (ints ((l.map (widL a)).take k))) (fun _ i _ => l.length - (intOf i).toNat)
      case atStart =>
        exact ⟨0, .slice none 0 0, by omega, rfl, hb1.alloc hb1.size _, hA1.alloc _, hR1.alloc _, Bx.new w1 _ _, Own.nilv _ _ _⟩
      case round =>
        have hz := hb1.size
        clear hA1 hR1 hr1 hb1 hAa hOa B10 B11 A10 A11 R10 R11 F10 F11
        obtain ⟨k, u, hk, rfl, hb, hA, hR, hO, hown⟩ := hrel
        have A0 := hA.cell 0 rfl
        have A1 := hA.cell 1 rfl
        have O0 := hO.cell 0 rfl
        have O1 := hO.cell 1 rfl
        by_cases hlt : k < l.length
        · have hi := h.idx 22 sliceI sizeI .i64 k (by omega) (by simpa using hlt)
          simp only [Int.toNat_natCast] at hi
          have hc := (h.below hb).int hlt
          obtain ⟨x0, x1, x2⟩ := hQ3.out k hlt
          have hT := hid (take_map_succ (widL a) hlt)
          have hszO := hO.lt
          generalize nth l k = x at *
          by_cases hp : 0 < x
          · have hm := hid (widL_pos (a := a) hp)
            obtain ⟨u', w', hrun, hown', hgr, -⟩ := app_oneF (ty := 22) (x := .int .i64 (x + a)) sliceI infoI rfl hown rfl (by omega) (by simp; omega) (by decide)
            obtain ⟨ua, um, uc, rfl⟩ := hown'.form3
            have hne : ∀ g, g < w1.heap.size + 1 → blk u ≠ some g := fun g hg => hown.blk_ne hg
            have hb2 := hb.grown hgr hb.size (fun j hj => by have := (hown.blk_lt hj).1; omega)
            have hO2 := hO.grown hgr (hne _ (by omega))
            have hF := hO2.frozen 1
            have hO2c := hO2.cell 1 rfl
            have hst := (hown'.set_block (g := w1.heap.size) (by omega) 1 (.slice ua um uc))
            have hO3 := hO2.set 1 (.slice ua um uc)
            have hA3 := (hA.grown hgr (hne _ (by omega))).other (a := ⟨w1.heap.size, 1, none⟩) (by show w1.heap.size ≠ w.heap.size; omega) (.slice ua um uc)
            have hR3 := (hR.grown hgr (hne _ (by omega))).other (a := ⟨w1.heap.size, 1, none⟩) (by show w1.heap.size ≠ w.heap.size + 1; omega) (.slice ua um uc)
            have hb3 := hb2.setCell (show w.heap.size ≤ (⟨w1.heap.size, 1, none⟩ : Addr).block from hz) (.slice ua um uc)
            have hst2 : Own (w'.setCell ⟨w1.heap.size, 1, none⟩ (.slice ua um uc)) (w1.heap.size + 1) 2 (.slice ua um uc) (ints ((l.map (widL a)).take (k + 1))) := by rw [hT.out, hm.out]; simpa [ints] using hst
            clear hst hown' hb2 hne
            go_wp2_with (at_builtin; refine wpList_app hrun rfl _ _ rfl rfl rfl ?_)
            go_roundw
            case rel => exact ⟨k + 1, _, by omega, by go_num, hb3, hA3, hR3, hO3, hst2⟩
            case measure => simp [intOf]; omega
          · have hm := hid (widL_neg (a := a) hp)
            obtain ⟨u', w', hrun, hown', hgr, -⟩ := app_oneF (ty := 22) (x := .int .i64 (x - a)) sliceI infoI rfl hown rfl (by omega) (by simp; omega) (by decide)
            obtain ⟨ua, um, uc, rfl⟩ := hown'.form3
            have hne : ∀ g, g < w1.heap.size + 1 → blk u ≠ some g := fun g hg => hown.blk_ne hg
            have hb2 := hb.grown hgr hb.size (fun j hj => by have := (hown.blk_lt hj).1; omega)
            have hO2 := hO.grown hgr (hne _ (by omega))
            have hF := hO2.frozen 1
            have hO2c := hO2.cell 1 rfl
            have hst := (hown'.set_block (g := w1.heap.size) (by omega) 1 (.slice ua um uc))
            have hO3 := hO2.set 1 (.slice ua um uc)
            have hA3 := (hA.grown hgr (hne _ (by omega))).other (a := ⟨w1.heap.size, 1, none⟩) (by show w1.heap.size ≠ w.heap.size; omega) (.slice ua um uc)
            have hR3 := (hR.grown hgr (hne _ (by omega))).other (a := ⟨w1.heap.size, 1, none⟩) (by show w1.heap.size ≠ w.heap.size + 1; omega) (.slice ua um uc)
            have hb3 := hb2.setCell (show w.heap.size ≤ (⟨w1.heap.size, 1, none⟩ : Addr).block from hz) (.slice ua um uc)
            have hst2 : Own (w'.setCell ⟨w1.heap.size, 1, none⟩ (.slice ua um uc)) (w1.heap.size + 1) 2 (.slice ua um uc) (ints ((l.map (widL a)).take (k + 1))) := by rw [hT.out, hm.out]; simpa [ints] using hst
            clear hst hown' hb2 hne
            go_wp2_with (at_builtin; refine wpList_app hrun rfl _ _ rfl rfl rfl ?_)
            go_roundw
            case rel => exact ⟨k + 1, _, by omega, by go_num, hb3, hA3, hR3, hO3, hst2⟩
            case measure => simp [intOf]; omega
        · obtain rfl : k = l.length := by omega
          have R0 := hR.cell 0 rfl
          have R1 := hR.cell 1 rfl
          have F0 := hR.frozen 0
          have F1 := hR.frozen 1
          have g40 := (hR.set 0 (.int .i64 (n + a + b))).cell 0 rfl
          have g41 := (hR.set 0 (.int .i64 (n + a + b))).cell 1 rfl
          rw [List.take_of_length_le (by simp)] at hown
          obtain ⟨ua, um, uc, hu⟩ := hown.form3
          subst hu
          go_wp2_with fail
          refine bodyPost_ret (v := .tuple #[.agg #[.int .i64 (n + a + b), .slice ua um uc], .int .i64 0]) (by simp [g40, g41, results, Try.results32, go_sem]) rfl ⟨_, by simp [nWid, codeWid, okWid, e1, ea, eb, h12]; rfl, ?_, ?_⟩
          · simp only [lWid, okWid, e1, ea, eb, hyes, Bool.and_self, ↓reduceIte]
            have t1 := hown.set_block (g := w.heap.size + 1) (by omega) 0 (.int .i64 (n + a + b))
            have t2 := t1.set_block (g := w.heap.size + 1) (by omega) 1 (.slice ua um uc)
            exact t2.mono (by omega)
          · exact (hb.setCell (by simp) _).setCell (by simp) _


set_option maxHeartbeats 4000000 in
theorem vwid_spec (n : Int) (v : Value) (l : List Int) (a b : Int) (w : World) (h : Reads w v (ints l)) :
    Calls Try.prog 31 #[.agg #[.int .i64 n, v], .int .i64 a, .int .i64 b] w fun e w' => ∃ u, e = .returned (.tuple #[.agg #[.int .i64 (nWid n l a b), u], .int .i64 (codeWid n l a b)]) ∧ Own w' w.heap.size 2 u (ints (lWid n l a b)) ∧ Below w.heap.size w w' := by
  have hs := h.small
  have hlen := h.len (P := Try.prog) 22 3 ⟨_, sliceI⟩
  simp only [length_ints] at hs hlen
  have hA0 := Bx.alloc (Bx.new w #[.int .i64 n, v] 27) (.cells #[.int .i64 0, .slice none 0 0] 27)
  have hR0 := Bx.new (w.alloc (.cells #[.int .i64 n, v] 27)) #[.int .i64 0, .slice none 0 0] 27
  have hr0 := reads_alloc (reads_alloc h (.cells #[.int .i64 n, v] 27)) (.cells #[.int .i64 0, .slice none 0 0] 27)
  have hb0 : Below w.heap.size w ((w.alloc (.cells #[.int .i64 n, v] 27)).alloc (.cells #[.int .i64 0, .slice none 0 0] 27)) := ((Below.refl _ _).alloc (Nat.le_refl _) _).alloc (by simp) _
  have A00 := hA0.cell 0 rfl
  have A01 := hA0.cell 1 rfl
  go_enter Try.func31, Try.ntmps31
  go_wp2_with fail
  refine (bok_spec w.heap.size 0 n v l _ A00 A01 hr0).mono ?_
  rintro e w1 ⟨rfl, hs1⟩
  have hb1 := hb0.trans (hs1.mono hb0.size)
  have hA1 := hA0.below hs1
  have hR1 := hR0.below hs1
  have hr1 := hr0.below hs1
  have hz1 := hR1.lt
  simp only [World.size_alloc] at hz1 hA1 hR1
  clear hs1 hb0 hA0 hR0 hr0 A00 A01
  have A10 := hA1.cell 0 rfl
  have A11 := hA1.cell 1 rfl
  have R10 := hR1.cell 0 rfl
  have R11 := hR1.cell 1 rfl
  have F10 := hR1.frozen 0
  have F11 := hR1.frozen 1
  cases e1 : okB n l with
  | false =>
    have g5 := (hR1.set 0 (.int .i64 0)).set 1 (.slice none 0 0)
    have g50 := g5.cell 0 rfl
    have g51 := g5.cell 1 rfl
    go_wp2_with fail
    refine bodyPost_ret (v := .tuple #[.agg #[.int .i64 0, .slice none 0 0], .int .i64 1]) (by simp [g50, g51, results, Try.results31, go_sem]) rfl ⟨_, by simp [nWid, codeWid, okWid, e1]; rfl, by simp only [lWid, okWid, e1]; exact own_nil _ _ _, (hb1.setCell (by simp) _).setCell (by simp) _⟩
  | true =>
  cases ea : inB a 0 12 with
  | false =>
    have g5 := (hR1.set 0 (.int .i64 0)).set 1 (.slice none 0 0)
    have g50 := g5.cell 0 rfl
    have g51 := g5.cell 1 rfl
    go_wp2_with (go_at_call 60; refine (in_spec _ _ _ _).mono ?_; rintro e w2 ⟨rfl, rfl⟩; first | rw [ea] | rw [eb])
    refine bodyPost_ret (v := .tuple #[.agg #[.int .i64 0, .slice none 0 0], .int .i64 2]) (by simp [g50, g51, results, Try.results31, go_sem]) rfl ⟨_, by simp [nWid, codeWid, okWid, e1, ea]; rfl, by simp only [lWid, okWid, e1, ea]; exact own_nil _ _ _, (hb1.setCell (by simp) _).setCell (by simp) _⟩
  | true =>
  cases eb : inB b 0 12 with
  | false =>
    have g5 := (hR1.set 0 (.int .i64 0)).set 1 (.slice none 0 0)
    have g50 := g5.cell 0 rfl
    have g51 := g5.cell 1 rfl
    go_wp2_with (go_at_call 60; refine (in_spec _ _ _ _).mono ?_; rintro e w2 ⟨rfl, rfl⟩; first | rw [ea] | rw [eb])
    refine bodyPost_ret (v := .tuple #[.agg #[.int .i64 0, .slice none 0 0], .int .i64 2]) (by simp [g50, g51, results, Try.results31, go_sem]) rfl ⟨_, by simp [nWid, codeWid, okWid, e1, ea, eb]; rfl, by simp only [lWid, okWid, e1, ea, eb]; exact own_nil _ _ _, (hb1.setCell (by simp) _).setCell (by simp) _⟩
  | true =>
    obtain ⟨q0, q1, q2, q3⟩ := okB_of e1
    obtain ⟨a0, a1⟩ := in_bd ea
    obtain ⟨b0, b1⟩ := in_bd eb
    have hsum : a + n + b = n + a + b := by omega
    by_cases h12 : n + a + b ≤ 12
    case neg =>
      have hno : decide (n + a + b ≤ 12) = false := by simp; omega
      have hgt : (12 : Int) < n + a + b := by omega
      have hh := hid (show (12 : Int) < n + a + b by omega)
      have g5 := ((hR1.set 0 (.int .i64 0)).set 1 (.slice none 0 0)).alloc (.cells #[.int .i64 (n + a + b), .slice none 0 0] 27)
      have g50 := g5.cell 0 rfl
      have g51 := g5.cell 1 rfl
      clear q3
      go_wp2_with (go_at_call 60; refine (in_spec _ _ _ _).mono ?_; rintro e w2 ⟨rfl, rfl⟩; first | rw [ea] | rw [eb])
      refine bodyPost_ret (v := .tuple #[.agg #[.int .i64 0, .slice none 0 0], .int .i64 5]) (by simp [g50, g51, results, Try.results31, go_sem]) rfl ⟨_, by simp [nWid, codeWid, okWid, e1, ea, eb, Int.not_le.2 hh.out]; rfl, by simp only [lWid, okWid, e1, ea, eb, hno]; exact own_nil _ _ _, ((hb1.setCell (by simp) _).setCell (by simp) _).alloc (by simp; exact hb1.size) _⟩
    case pos =>
      have hle : ¬ (12 : Int) < n + a + b := by omega
      have hyes : decide (n + a + b ≤ 12) = true := by simp; omega
      have hAa := hA1.alloc (.cells #[.int .i64 (n + a + b), .slice none 0 0] 27)
      have hOa := Bx.new w1 #[.int .i64 (n + a + b), .slice none 0 0] 27
      have B10 := hAa.cell 0 rfl
      have B11 := hAa.cell 1 rfl
      have hQ3 := hid q3
      clear q3
      go_wp2_with (go_at_call 60; refine (in_spec _ _ _ _).mono ?_; rintro e w2 ⟨rfl, rfl⟩; first | rw [ea] | rw [eb])
      go_loopw [9] (fun i wr => ∃ (k : Nat) (u : Value), k ≤ l.length ∧ i = .int .i64 k ∧ Below w.heap.size w wr ∧ Bx wr w.heap.size [.int .i64 n, v] ∧ Bx wr (w.heap.size + 1) [.int .i64 0, .slice none 0 0] ∧ Bx wr w1.heap.size [.int .i64 (n + a + b), u] ∧ Own wr (w1.heap.size + 1) 2 u (ints ((l.map (widL a)).take k))) (fun i _ => l.length - (intOf i).toNat)
      case atStart =>
        exact ⟨0, .slice none 0 0, by omega, rfl, hb1.alloc hb1.size _, hA1.alloc _, hR1.alloc _, Bx.new w1 _ _, Own.nilv _ _ _⟩
      case round =>
        have hz := hb1.size
        clear hA1 hR1 hr1 hb1 hAa hOa B10 B11 A10 A11 R10 R11 F10 F11
        obtain ⟨k, u, hk, rfl, hb, hA, hR, hO, hown⟩ := hrel
        have A0 := hA.cell 0 rfl
        have A1 := hA.cell 1 rfl
        have O0 := hO.cell 0 rfl
        have O1 := hO.cell 1 rfl
        by_cases hlt : k < l.length
        · have hi := h.idx 22 sliceI sizeI .i64 k (by omega) (by simpa using hlt)
          simp only [Int.toNat_natCast] at hi
          have hc := (h.below hb).int hlt
          obtain ⟨x0, x1, x2⟩ := hQ3.out k hlt
          have hT := hid (take_map_succ (widL a) hlt)
          have hszO := hO.lt
          generalize nth l k = x at *
          by_cases hp : 0 < x
          · have hm := hid (widL_pos (a := a) hp)
            have hb' : Below w.heap.size w wr.drew := below_drewN hb 1
            have hown0 : Own wr.drew (w1.heap.size + 1) 2 u _ := hown.drewN 1
            have hA' := hA.drew
            have hR' := hR.drew
            have hO' := hO.drew
            have hwr := Go.IntWalk.i64_in (x + a) (by omega)
            obtain ⟨u', w', hrun, hown', hgr, -⟩ := app_oneF (ty := 22) (x := .int .i64 (IntKind.i64.wrap (x + a))) sliceI infoI rfl hown0 rfl (by simp; omega) (by simp; omega) (by decide)
            obtain ⟨ua, um, uc, rfl⟩ := hown'.form3
            have hne : ∀ g, g < w1.heap.size + 1 → blk u ≠ some g := fun g hg => hown.blk_ne hg
            have hb2 := hb'.grown hgr hb'.size (fun j hj => by have := (hown0.blk_lt hj).1; omega)
            have hO2 := hO'.grown hgr (hne _ (by omega))
            have hF := hO2.frozen 1
            have hO2c := hO2.cell 1 rfl
            have hst := (hown'.set_block (g := w1.heap.size) (by omega) 1 (.slice ua um uc))
            have hO3 := hO2.set 1 (.slice ua um uc)
            have hA3 := (hA'.grown hgr (hne _ (by omega))).other (a := ⟨w1.heap.size, 1, none⟩) (by show w1.heap.size ≠ w.heap.size; omega) (.slice ua um uc)
            have hR3 := (hR'.grown hgr (hne _ (by omega))).other (a := ⟨w1.heap.size, 1, none⟩) (by show w1.heap.size ≠ w.heap.size + 1; omega) (.slice ua um uc)
            have hb3 := hb2.setCell (show w.heap.size ≤ (⟨w1.heap.size, 1, none⟩ : Addr).block from hz) (.slice ua um uc)
            have hst2 : Own (w'.setCell ⟨w1.heap.size, 1, none⟩ (.slice ua um uc)) (w1.heap.size + 1) 2 (.slice ua um uc) (ints ((l.map (widL a)).take (k + 1))) := by rw [hT.out, hm.out]; simpa [ints, hwr] using hst
            clear hst hown' hb2 hne hwr
            have hRUN := hid hrun
            clear hrun
            go_wp2_with fail
            go_region_law (refine step_app hRUN.out rfl (.tmp 47) (.tmp 55) rfl (by simp [Act.eval]) (by simp [Act.eval]) ?_)
            all_goals
              go_wp2_with fail
              go_roundw
              case rel => exact ⟨k + 1, _, by omega, by go_num, hb3, hA3, hR3, hO3, hst2⟩
              case measure => simp [intOf]; omega
          · have hm := hid (widL_neg (a := a) hp)
            have hb' : Below w.heap.size w wr.drew := below_drewN hb 1
            have hown0 : Own wr.drew (w1.heap.size + 1) 2 u _ := hown.drewN 1
            have hA' := hA.drew
            have hR' := hR.drew
            have hO' := hO.drew
            have hwr := Go.IntWalk.i64_in (x - a) (by omega)
            obtain ⟨u', w', hrun, hown', hgr, -⟩ := app_oneF (ty := 22) (x := .int .i64 (IntKind.i64.wrap (x - a))) sliceI infoI rfl hown0 rfl (by simp; omega) (by simp; omega) (by decide)
            obtain ⟨ua, um, uc, rfl⟩ := hown'.form3
            have hne : ∀ g, g < w1.heap.size + 1 → blk u ≠ some g := fun g hg => hown.blk_ne hg
            have hb2 := hb'.grown hgr hb'.size (fun j hj => by have := (hown0.blk_lt hj).1; omega)
            have hO2 := hO'.grown hgr (hne _ (by omega))
            have hF := hO2.frozen 1
            have hO2c := hO2.cell 1 rfl
            have hst := (hown'.set_block (g := w1.heap.size) (by omega) 1 (.slice ua um uc))
            have hO3 := hO2.set 1 (.slice ua um uc)
            have hA3 := (hA'.grown hgr (hne _ (by omega))).other (a := ⟨w1.heap.size, 1, none⟩) (by show w1.heap.size ≠ w.heap.size; omega) (.slice ua um uc)
            have hR3 := (hR'.grown hgr (hne _ (by omega))).other (a := ⟨w1.heap.size, 1, none⟩) (by show w1.heap.size ≠ w.heap.size + 1; omega) (.slice ua um uc)
            have hb3 := hb2.setCell (show w.heap.size ≤ (⟨w1.heap.size, 1, none⟩ : Addr).block from hz) (.slice ua um uc)
            have hst2 : Own (w'.setCell ⟨w1.heap.size, 1, none⟩ (.slice ua um uc)) (w1.heap.size + 1) 2 (.slice ua um uc) (ints ((l.map (widL a)).take (k + 1))) := by rw [hT.out, hm.out]; simpa [ints, hwr] using hst
            clear hst hown' hb2 hne hwr
            have hRUN := hid hrun
            clear hrun
            go_wp2_with fail
            go_region_law (refine step_app hRUN.out rfl (.tmp 59) (.tmp 67) rfl (by simp [Act.eval]) (by simp [Act.eval]) ?_)
            all_goals
              go_wp2_with fail
              go_roundw
              case rel => exact ⟨k + 1, _, by omega, by go_num, hb3, hA3, hR3, hO3, hst2⟩
              case measure => simp [intOf]; omega
        · obtain rfl : k = l.length := by omega
          have R0 := hR.cell 0 rfl
          have R1 := hR.cell 1 rfl
          have F0 := hR.frozen 0
          have F1 := hR.frozen 1
          have g40 := (hR.set 0 (.int .i64 (n + a + b))).cell 0 rfl
          have g41 := (hR.set 0 (.int .i64 (n + a + b))).cell 1 rfl
          rw [List.take_of_length_le (by simp)] at hown
          obtain ⟨ua, um, uc, hu⟩ := hown.form3
          subst hu
          go_wp2_with fail
          refine bodyPost_ret (v := .tuple #[.agg #[.int .i64 (n + a + b), .slice ua um uc], .int .i64 0]) (by simp [g40, g41, results, Try.results31, go_sem]) rfl ⟨_, by simp [nWid, codeWid, okWid, e1, ea, eb, h12]; rfl, ?_, ?_⟩
          · simp only [lWid, okWid, e1, ea, eb, hyes, Bool.and_self, ↓reduceIte]
            have t1 := hown.set_block (g := w.heap.size + 1) (by omega) 0 (.int .i64 (n + a + b))
            have t2 := t1.set_block (g := w.heap.size + 1) (by omega) 1 (.slice ua um uc)
            exact t2.mono (by omega)
          · exact (hb.setCell (by simp) _).setCell (by simp) _


end Go.Proofs.Ytoomkkeffejcdaa
