/- Contracts: mirrored and widened braids. -/
import Derived.Test.YtkgdbobhppmaiaaDoorBrf
import Derived.Test.YtkgdbobhppmaiaaDoorBx
import Derived.Test.YtkgdbobhppmaiaaDoorDel
namespace Go.Proofs.YtkgdbobhppmaiaaDoor
open Go.RowKit

theorem take_map_succ {l : List Int} {k : Nat} (f : Int → Int) (h : k < l.length) : (l.map f).take (k + 1) = (l.map f).take k ++ [f (nth l k)] := by
  rw [List.take_add_one, nth_of (by simpa using h), nth_map _ h]; rfl
/-- a letter seen from the other side -/
def mirL (n k : Int) : Int := if 0 < k then n - k else -n - k
theorem mirL_pos {n k : Int} (h : 0 < k) : mirL n k = n - k := by simp [mirL, h]
theorem mirL_neg {n k : Int} (h : ¬ 0 < k) : mirL n k = -n - k := by simp [mirL, h]


set_option maxRecDepth 100000 in
set_option maxHeartbeats 4000000 in
theorem vmir_impl (n : Int) (v : Value) (l : List Int) (w : World) (h : Reads w v (ints l)) :
    Calls Tryd.prog 46 #[.agg #[.int .i64 n, v]] w fun e w' => ∃ u, e = .returned (.agg #[.int .i64 (okN n l), u]) ∧ Own w' w.heap.size 2 u (ints (okL n l (l.map (mirL n)))) ∧ Below w.heap.size w w' := by
  have hs := h.small
  have hlen := h.len (P := Tryd.prog) 35 3 ⟨_, sliceI⟩
  simp only [length_ints] at hs hlen
  have hA0 := Bx.alloc (Bx.new w #[.int .i64 n, v] 40) (.cells #[.int .i64 0, .slice none 0 0] 40)
  have hR0 := Bx.new (w.alloc (.cells #[.int .i64 n, v] 40)) #[.int .i64 0, .slice none 0 0] 40
  have hr0 := reads_alloc (reads_alloc h (.cells #[.int .i64 n, v] 40)) (.cells #[.int .i64 0, .slice none 0 0] 40)
  have hb0 : Below w.heap.size w ((w.alloc (.cells #[.int .i64 n, v] 40)).alloc (.cells #[.int .i64 0, .slice none 0 0] 40)) := ((Below.refl _ _).alloc (Nat.le_refl _) _).alloc (by simp) _
  have A00 := hA0.cell 0 rfl
  have A01 := hA0.cell 1 rfl
  go_enter Tryd.func46, Tryd.ntmps46
  go_wp2_with fail
  refine (vb_impl n v l _ hr0).mono ?_
  rintro e w1 ⟨rfl, hs1⟩
  have hb1 := hb0.trans (hs1.mono hb0.size)
  have hA1 := hA0.below hs1
  have hR1 := hR0.below hs1
  have hr1 := hr0.below hs1
  have hz1 := hR1.lt
  simp only [World.size_alloc] at hz1 hA1 hR1
  clear hs1 hb0 hA0 hR0 hr0 A00 A01
  have A10 := hA1.cell 0 rfl
  have A11 := hA1.cell 1 rfl
  have R10 := hR1.cell 0 rfl
  have R11 := hR1.cell 1 rfl
  have F10 := hR1.frozen 0
  have F11 := hR1.frozen 1
  cases e1 : okB n l with
  | false =>
    have g5 := (hR1.set 0 (.int .i64 0)).set 1 (.slice none 0 0)
    have g50 := g5.cell 0 rfl
    have g51 := g5.cell 1 rfl
    go_wp2_with fail
    refine bodyPost_ret (v := .agg #[.int .i64 0, .slice none 0 0]) (by simp [g50, g51, results, Tryd.results46, go_sem]) rfl ⟨_, by simp [okN, e1]; rfl, by simp only [okL, e1]; exact own_nilB _ _ _, (hb1.setCell (by simp) _).setCell (by simp) _⟩
  | true =>
    obtain ⟨q0, q1, q2, q3⟩ := okB_of e1
    have hAa := hA1.alloc (.cells #[.int .i64 n, .slice none 0 0] 40)
    have B10 := hAa.cell 0 rfl
    have B11 := hAa.cell 1 rfl
    go_wp2_with fail
    go_loopw [5, 16] (fun _ i wr => ∃ (k : Nat) (u : Value), k ≤ l.length ∧ i = .int .i64 k ∧ Below w.heap.size w wr ∧ Bx wr w.heap.size [.int .i64 n, v] ∧ Bx wr (w.heap.size + 1) [.int .i64 0, .slice none 0 0] ∧ Bx wr w1.heap.size [.int .i64 n, u] ∧ Own wr (w1.heap.size + 1) 2 u (ints ((l.map (mirL n)).take k))) (fun _ i _ => l.length - (intOf i).toNat)
    case atStart =>
      exact ⟨0, .slice none 0 0, by omega, rfl, hb1.alloc hb1.size _, hA1.alloc _, hR1.alloc _, Bx.new w1 _ _, Own.nilv _ _ _⟩
    case round =>
      have hz := hb1.size
      clear hA1 hR1 hr1 hb1 hAa B10 B11 A10 A11 R10 R11 F10 F11
      obtain ⟨k, u, hk, rfl, hb, hA, hR, hO, hown⟩ := hrel
      have A0 := hA.cell 0 rfl
      have A1 := hA.cell 1 rfl
      have O0 := hO.cell 0 rfl
      have O1 := hO.cell 1 rfl
      by_cases hlt : k < l.length
      · have hi := h.idx 35 sliceI sizeI .i64 k (by omega) (by simpa using hlt)
        simp only [Int.toNat_natCast] at hi
        have hc := (h.below hb).int hlt
        obtain ⟨a0, a1, a2⟩ := q3 k hlt
        have hT := hid (take_map_succ (mirL n) hlt)
        have hszO := hO.lt
        clear q3
        generalize nth l k = a at *
        by_cases hp : 0 < a
        · have hm := hid (mirL_pos (n := n) hp)
          obtain ⟨u', w', hrun, hown', hgr, -⟩ := app_oneF (ty := 35) (x := .int .i64 (n - a)) sliceI infoI rfl hown rfl (by omega) (by simp; omega) (by decide)
          obtain ⟨ua, um, uc, rfl⟩ := hown'.form3
          have hne : ∀ g, g < w1.heap.size + 1 → blk u ≠ some g := fun g hg => hown.blk_ne hg
          have hb2 := hb.grown hgr hb.size (fun j hj => by have := (hown.blk_lt hj).1; omega)
          have hO2 := hO.grown hgr (hne _ (by omega))
          have hF := hO2.frozen 1
          have hO2c := hO2.cell 1 rfl
          have hst := (hown'.set_block (g := w1.heap.size) (by omega) 1 (.slice ua um uc))
          have hO3 := hO2.set 1 (.slice ua um uc)
          have hA3 := (hA.grown hgr (hne _ (by omega))).other (a := ⟨w1.heap.size, 1, none⟩) (by show w1.heap.size ≠ w.heap.size; omega) (.slice ua um uc)
          have hR3 := (hR.grown hgr (hne _ (by omega))).other (a := ⟨w1.heap.size, 1, none⟩) (by show w1.heap.size ≠ w.heap.size + 1; omega) (.slice ua um uc)
          have hb3 := hb2.setCell (show w.heap.size ≤ (⟨w1.heap.size, 1, none⟩ : Addr).block from hz) (.slice ua um uc)
          have hst2 : Own (w'.setCell ⟨w1.heap.size, 1, none⟩ (.slice ua um uc)) (w1.heap.size + 1) 2 (.slice ua um uc) (ints ((l.map (mirL n)).take (k + 1))) := by rw [hT.out, hm.out]; simpa [ints] using hst
          clear hst hown' hb2 hne
          go_wp2_with (at_builtin; refine wpList_app hrun rfl _ _ rfl rfl rfl ?_)
          go_roundw
          case rel => exact ⟨k + 1, _, by omega, by go_num, hb3, hA3, hR3, hO3, hst2⟩
          case measure => simp [intOf]; omega
        · have hm := hid (mirL_neg (n := n) hp)
          obtain ⟨u', w', hrun, hown', hgr, -⟩ := app_oneF (ty := 35) (x := .int .i64 (-n - a)) sliceI infoI rfl hown rfl (by omega) (by simp; omega) (by decide)
          obtain ⟨ua, um, uc, rfl⟩ := hown'.form3
          have hne : ∀ g, g < w1.heap.size + 1 → blk u ≠ some g := fun g hg => hown.blk_ne hg
          have hb2 := hb.grown hgr hb.size (fun j hj => by have := (hown.blk_lt hj).1; omega)
          have hO2 := hO.grown hgr (hne _ (by omega))
          have hF := hO2.frozen 1
          have hO2c := hO2.cell 1 rfl
          have hst := (hown'.set_block (g := w1.heap.size) (by omega) 1 (.slice ua um uc))
          have hO3 := hO2.set 1 (.slice ua um uc)
          have hA3 := (hA.grown hgr (hne _ (by omega))).other (a := ⟨w1.heap.size, 1, none⟩) (by show w1.heap.size ≠ w.heap.size; omega) (.slice ua um uc)
          have hR3 := (hR.grown hgr (hne _ (by omega))).other (a := ⟨w1.heap.size, 1, none⟩) (by show w1.heap.size ≠ w.heap.size + 1; omega) (.slice ua um uc)
          have hb3 := hb2.setCell (show w.heap.size ≤ (⟨w1.heap.size, 1, none⟩ : Addr).block from hz) (.slice ua um uc)
          have hst2 : Own (w'.setCell ⟨w1.heap.size, 1, none⟩ (.slice ua um uc)) (w1.heap.size + 1) 2 (.slice ua um uc) (ints ((l.map (mirL n)).take (k + 1))) := by rw [hT.out, hm.out]; simpa [ints] using hst
          clear hst hown' hb2 hne
          go_wp2_with (at_builtin; refine wpList_app hrun rfl _ _ rfl rfl rfl ?_)
          go_roundw
          case rel => exact ⟨k + 1, _, by omega, by go_num, hb3, hA3, hR3, hO3, hst2⟩
          case measure => simp [intOf]; omega
      · obtain rfl : k = l.length := by omega
        have R0 := hR.cell 0 rfl
        have R1 := hR.cell 1 rfl
        have F0 := hR.frozen 0
        have F1 := hR.frozen 1
        have g40 := (hR.set 0 (.int .i64 n)).cell 0 rfl
        have g41 := (hR.set 0 (.int .i64 n)).cell 1 rfl
        obtain ⟨ua, uc, hu⟩ := hown.form3'
        subst hu
        go_wp2_with fail
        refine bodyPost_ret (v := .agg #[.int .i64 n, .slice ua (ints ((l.map (mirL n)).take l.length)).length uc]) (by simp [g40, g41, results, Tryd.results46, go_sem]) rfl ⟨_, by simp [okN, e1]; rfl, ?_, ?_⟩
        · simp only [okL, e1, ↓reduceIte]
          have hown := hown
          rw [List.take_of_length_le (by simp)] at hown
          have t1 := hown.set_block (g := w.heap.size + 1) (by omega) 0 (.int .i64 n)
          have t2 := t1.set_block (g := w.heap.size + 1) (by omega) 1 (.slice ua (ints ((l.map (mirL n)).take l.length)).length uc)
          simp only [length_ints, List.length_take, List.length_map, Nat.min_self] at t2 ⊢
          exact t2.mono (by omega)
        · exact (hb.setCell (by simp) _).setCell (by simp) _


end Go.Proofs.YtkgdbobhppmaiaaDoor
