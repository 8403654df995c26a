/- Contracts: inverse braids. -/
import Derived.Test.YtkgdbobhppmaiaaDoorBre
import Derived.Deep.RegionWith
namespace Go.Proofs.YtkgdbobhppmaiaaDoor
open Go.RowKit

theorem Own.form3 {w : World} {B : Nat} {e : TypeId} {v : Value} {xs : List Value} (h : Own w B e v xs) : ∃ a n c, v = .slice a n c := by
  obtain ⟨a, c, rfl, -⟩ := h.reads.form
  exact ⟨a, _, c, rfl⟩
theorem Own.set_far {w : World} {B : Nat} {e : TypeId} {v : Value} {xs : List Value} (h : Own w B e v xs) (k o : Nat) (y : Value) (hk : k < B) : Own (w.setCell ⟨k, o, none⟩ y) B e v xs :=
  h.keep fun j hj _ => Below.heap_setCell _ _ _ _ (fun e => by have := (h.blk_lt hj).1; simp at e; omega)
theorem own_nilB (w : World) (B : Nat) (e : TypeId) : Own w B e (.slice none 0 0) (ints []) := .inl ⟨rfl, rfl⟩
/-- the value of a braid, or of none -/
def okN (n : Int) (l : List Int) : Int := if okB n l then n else 0
def okL (n : Int) (l k : List Int) : List Int := if okB n l then k else []


set_option maxRecDepth 100000 in
set_option maxHeartbeats 2000000 in
theorem vinv_impl (n : Int) (v : Value) (l : List Int) (w : World) (h : Reads w v (ints l)) :
    Calls Tryd.prog 41 #[.agg #[.int .i64 n, v]] w fun e w' => ∃ u, e = .returned (.agg #[.int .i64 (okN n l), u]) ∧ Own w' w.heap.size 2 u (ints (okL n l (invW l))) ∧ Below w.heap.size w w' := by
  have hr0 := reads_alloc (reads_alloc h (.cells #[.int .i64 n, v] 40)) (.cells #[.int .i64 0, .slice none 0 0] 40)
  have hA := own_alloc (own_arr w 40 #[.int .i64 n, v] 2 rfl (by omega) (Nat.zero_le _)) (.cells #[.int .i64 0, .slice none 0 0] 40)
  have hR := own_arr (w.alloc (.cells #[.int .i64 n, v] 40)) 40 #[.int .i64 0, .slice none 0 0] 2 rfl (by omega) (Nat.zero_le _)
  have hbox : Below w.heap.size w ((w.alloc (.cells #[.int .i64 n, v] 40)).alloc (.cells #[.int .i64 0, .slice none 0 0] 40)) := ((Below.refl _ _).alloc (Nat.le_refl _) _).alloc (by simp) _
  go_enter Tryd.func41, Tryd.ntmps41
  go_wp2_with fail
  generalize hW : ((w.alloc (.cells #[.int .i64 n, v] 40)).alloc (.cells #[.int .i64 0, .slice none 0 0] 40)) = w2 at *
  have hsz : w2.heap.size = w.heap.size + 1 + 1 := by rw [← hW]; simp
  clear hW
  simp only [World.size_alloc] at hR
  have cA0 := hA.reads.cell 0 _ rfl
  have cA1 := hA.reads.cell 1 _ rfl
  rw [adr_arr] at cA0 cA1
  refine (vb_impl n v l _ hr0).mono ?_
  clear cA0 cA1
  rintro e w3 ⟨rfl, hs3⟩
  have hb3 := hbox.trans (hs3.mono (by omega))
  have hA3 := hA.below hs3
  have hR3 := hR.below hs3
  have hr3 := hr0.below hs3
  have hsz3 := hs3.size
  clear hs3 hA hR hbox hr0
  have cA0 := hA3.reads.cell 0 _ rfl
  have cA1 := hA3.reads.cell 1 _ rfl
  have cR0 := hR3.reads.cell 0 _ rfl
  have cR1 := hR3.reads.cell 1 _ rfl
  have fR0 := hR3.frozen (i := 0) (by simp)
  have fR1 := hR3.frozen (i := 1) (by simp)
  rw [adr_arr] at cA0 cA1 cR0 cR1 fR0 fR1
  cases e1 : okB n l with
  | false =>
    go_wp2_with fail
    have g5 := World.cell?_setCell_same _ _ (.int .i64 0) cR0
    have g5' := (World.cell?_setCell_other w3 ⟨w.heap.size + 1, 0, none⟩ ⟨w.heap.size + 1, 1, none⟩ (.int .i64 0) (by simp)).trans cR1
    have g6 := World.cell?_setCell_same _ _ (.slice none 0 0) g5'
    have g6' := (World.cell?_setCell_other (w3.setCell ⟨w.heap.size + 1, 0, none⟩ (.int .i64 0)) ⟨w.heap.size + 1, 1, none⟩ ⟨w.heap.size + 1, 0, none⟩ (.slice none 0 0) (by simp)).trans g5
    refine bodyPost_ret (v := .agg #[.int .i64 0, .slice none 0 0]) (by simp [g6, g6', results, Tryd.results41, go_sem]) rfl ⟨_, by simp [okN, e1]; rfl, ?_, ?_⟩
    · simp only [okL, e1]; exact own_nilB _ _ _
    · exact (hb3.setCell (by simp) _).setCell (by simp) _
  | true =>
    obtain ⟨q0, q1, q2, q3⟩ := okB_of e1
    go_wp2_with fail
    have hI := hid (fun (w' : World) (hw : Reads w' v (ints l)) => inv_impl' v l w' hw (by omega) (fun k hk => by have := q3 k hk; omega))
    have hr3d := hid (hr3.drewN 1)
    have hK := hid (fun (w' : World) (hw : Below w3.drew.heap.size w3.drew w') => (⟨(hA3.drewN 1).below hw, (hR3.drewN 1).below hw⟩ : _ ∧ _))
    clear hA3 hR3 hr3 q3
    go_region_with (go_at_call 76; refine (hI.out _ hr3d.out).mono ?_; rintro e w4 ⟨u, rfl, ho, hs⟩; obtain ⟨ua, um, uc, rfl⟩ := ho.form3; obtain ⟨hA4, hR4⟩ := hK.out _ hs; have dA0 := hA4.reads.cell 0 _ rfl; have dA1 := hA4.reads.cell 1 _ rfl; have dR0 := hR4.reads.cell 0 _ rfl; have dR1 := hR4.reads.cell 1 _ rfl; have gR0 := hR4.frozen (i := 0) (by simp); have gR1 := hR4.frozen (i := 1) (by simp); rw [adr_arr] at dA0 dA1 dR0 dR1 gR0 gR1)
    all_goals
      go_wp2_with fail
      have hb4 := hb3.trans (((Below.refl _ w3).drew.trans (hs.mono (Nat.le_refl _))).mono hb3.size)
      have g5 := World.cell?_setCell_same _ _ (.int .i64 n) dR0
      have g5' := (World.cell?_setCell_other w4 ⟨w.heap.size + 1, 0, none⟩ ⟨w.heap.size + 1, 1, none⟩ (.int .i64 n) (by simp)).trans dR1
      have g6 := World.cell?_setCell_same _ _ (.slice ua um uc) g5'
      have g6' := (World.cell?_setCell_other (w4.setCell ⟨w.heap.size + 1, 0, none⟩ (.int .i64 n)) ⟨w.heap.size + 1, 1, none⟩ ⟨w.heap.size + 1, 0, none⟩ (.slice ua um uc) (by simp)).trans g5
      refine bodyPost_ret (v := .agg #[.int .i64 n, .slice ua um uc]) (by simp [g6, g6', results, Tryd.results41, go_sem]) rfl ⟨_, by simp [okN, e1]; rfl, ?_, ?_⟩
      · simp only [okL, e1, ↓reduceIte]
        exact ((ho.set_far (w.heap.size + 1) _ _ (by simp; omega)).set_far (w.heap.size + 1) _ _ (by simp; omega)).mono (by simp; omega)
      · exact (hb4.setCell (by simp) _).setCell (by simp) _


end Go.Proofs.YtkgdbobhppmaiaaDoor
