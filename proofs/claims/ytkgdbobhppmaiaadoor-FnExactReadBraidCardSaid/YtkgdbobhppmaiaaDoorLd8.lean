/- The law of ReadBraid: its walk. -/
import Derived.Test.YtkgdbobhppmaiaaDoorRbs
import Derived.Test.YtkgdbobhppmaiaaDoorBrc
namespace Go.Proofs.YtkgdbobhppmaiaaDoor
open Go.RowKit

theorem rbL_len (s : List UInt8) : (rbL s).length ≤ 40 := by
  unfold rbL
  cases h : rbO s with
  | none => simp
  | some p =>
    obtain ⟨n, l⟩ := p
    exact (okB_of (rb_of h).1).2.2.1
theorem lit_own {w : World} {B : Nat} {e : TypeId} {v : Value} {xs : List Value} (h : Own w B e v xs) : ∃ a n c, v = Value.slice a n c := by
  obtain ⟨a, c, e⟩ := h.form3'; exact ⟨a, _, c, e⟩


set_option maxRecDepth 100000 in
set_option maxHeartbeats 8000000 in
theorem walk_FnExactReadBraid (s : ByteArray) (W : World) (_hs : s.size ≤ maxLen) (hT : Tb W) (hE : Er W) (hM : Mx W) :
    Calls Tryd.prog 10 #[.string s] W fun e w' => e = .returned (.bool true) ∧ Below W.heap.size W w' := by
  by_cases hs : s.size ≤ 1048576
  case neg =>
    have hg : (1048576 : Int) < (s.size : Int) := by omega
    clear hs
    go_enter Tryd.func10, Tryd.ntmps10
    go_wp2_with fail
    go_ret
    exact ⟨rfl, Below.refl _ _⟩
  case pos =>
  have hg : ¬ (1048576 : Int) < (s.size : Int) := by omega
  have hcS := ReadBraidS s W hs
  have hcI := hid (fun (w : World) (hb : Below W.heap.size W w) => ReadBraidI s w hs (hT.below hb) (hE.below hb) (hM.below hb))
  have hL40 := rbL_len s.data.toList
  generalize rbN s.data.toList = N at *
  generalize rbL s.data.toList = L at *
  generalize rbB s.data.toList = V at *
  have hvv : (V != V) = false := by simp
  replace hT := hid hT
  replace hE := hid hE
  replace hM := hid hM
  go_enter Tryd.func10, Tryd.ntmps10
  go_wp2_with fail
  refine hcS.mono ?_
  rintro e w1 ⟨v, rfl, hv, hb1⟩
  obtain ⟨va, vn, vc, rfl⟩ := lit_own hv
  have hX := Bx.new w1 #[.int .i64 N, .slice va vn vc] 40
  have hv2 := own_alloc hv (.cells #[.int .i64 N, .slice va vn vc] 40)
  have hvb := hid (fun g (hg : blk (.slice va vn vc) = some g) => (hv.blk_lt hg).2)
  have hb2 := hb1.alloc hb1.size (.cells #[.int .i64 N, .slice va vn vc] 40)
  have hz2 : (w1.alloc (.cells #[.int .i64 N, .slice va vn vc] 40)).heap.size = w1.heap.size + 1 := by simp
  have hz1 := hb1.size
  clear hv hb1 hcS
  replace hv2 := hid hv2
  replace hb2 := hid hb2
  replace hX := hid hX
  go_wp2_with fail
  generalize w1.alloc (.cells #[.int .i64 N, .slice va vn vc] 40) = w2 at *
  refine (hcI.out w2 hb2.out).mono ?_
  rintro e w3 ⟨g, rfl, hgo, hb3⟩
  obtain ⟨ga, gn, gc, rfl⟩ := lit_own hgo
  have hz3 := hb3.size
  have hgb := hid (fun b (hg : blk (.slice ga gn gc) = some b) => hgo.blk_lt hg)
  have hA := (Below.refl w3.heap.size w3).alloc (Nat.le_refl _) (.cells #[.int .i64 N, .slice ga gn gc] 40)
  have hY := Bx.new w3 #[.int .i64 N, .slice ga gn gc] 40
  have hg4 := hgo.below hA
  have hv4 := (hv2.out.below hb3).below hA
  have hX4 := (hX.out.below hb3).below hA
  have hb4 := (hb2.out.trans (hb3.mono hb2.out.size)).trans (hA.mono (by have := hb2.out.size; omega))
  have hz4 : (w3.alloc (.cells #[.int .i64 N, .slice ga gn gc] 40)).heap.size = w3.heap.size + 1 := by simp
  clear hgo hb3 hA hv2 hX hb2
  have x0 := hX4.cell 0 rfl
  have x1 := hX4.cell 1 rfl
  have y0 := hY.cell 0 rfl
  have y1 := hY.cell 1 rfl
  replace hg4 := hid hg4
  replace hv4 := hid hv4
  replace hb4 := hid hb4
  go_wp2_with fail
  generalize w3.alloc (.cells #[.int .i64 N, .slice ga gn gc] 40) = w4 at *
  refine (eqB N N _ _ L L w4 hg4.out.reads hv4.out.reads).mono ?_
  rintro e w5 ⟨rfl, hs5⟩
  rw [show (N == N && decide (L = L)) = true by simp]
  have hX5 := hX4.below hs5
  have hY5 := hY.below hs5
  have hg5 := hid (hg4.out.below hs5)
  have hv5 := hid (hv4.out.below hs5)
  have hb5 := hid (hb4.out.trans (hs5.mono hb4.out.size))
  have hz5 := hs5.size
  clear x0 x1 y0 y1 hX4 hY hg4 hv4 hb4 hs5
  have y0 := hY5.cell 0 rfl
  have y1 := hY5.cell 1 rfl
  go_wp2_with fail
  refine (markB N _ L 1 w5 hg5.out (by omega) (by omega) (by omega)).mono ?_
  rintro e w6 ⟨rfl, hg6, hgr⟩
  have hX6 := hX5.grown hgr (fun e => by have := hgb.out _ e; omega)
  have hY6 := hY5.grown hgr (fun e => by have := hgb.out _ e; omega)
  have hv6 := hid (hv5.out.keep (w' := w6) fun j hj hjl => hgr.block j hjl (fun e => by have h1 := hgb.out _ e.symm; have h2 := hvb.out _ hj; omega))
  have hz6 := hgr.size
  have hb6 := hid (hb5.out.grown hgr hb5.out.size (fun j hj => by have := hgb.out _ hj; omega))
  have hg6' := hid hg6.reads
  clear y0 y1 hX5 hY5 hg5 hv5 hb5 hg6 hgr
  have y0 := hY6.cell 0 rfl
  have y1 := hY6.cell 1 rfl
  go_wp2_with fail
  refine (heldB N _ L.length 1 w6 hg6'.out (by omega) (by omega) (by omega)).mono ?_
  rintro e w7 ⟨rfl, hs7⟩
  have hX7 := hid (hX6.below hs7)
  have hY7 := hid (hY6.below hs7)
  have hg7 := hid (hg6'.out.below hs7)
  have hv7 := hid (hv6.out.below hs7)
  have hb7 := hid (hb6.out.trans (hs7.mono hb6.out.size))
  have hz7 := hs7.size
  have hn0 : ¬ (1 + (L.length : Int)) < 0 := by omega
  have hqq : ((1 + (L.length : Int)) != (1 + (L.length : Int))) = false := by simp
  clear y0 y1 hX6 hY6 hg6' hv6 hb6 hs7
  go_wp2_with fail
  refine (hcI.out w7 hb7.out).mono ?_
  rintro e w8 ⟨h, rfl, hho, hs8⟩
  obtain ⟨ha, hn, hc, rfl⟩ := lit_own hho
  have hA := (Below.refl w8.heap.size w8).alloc (Nat.le_refl _) (.cells #[.int .i64 N, .slice ha hn hc] 40)
  have hZ := Bx.new w8 #[.int .i64 N, .slice ha hn hc] 40
  have hX8 := (hX7.out.below hs8).below hA
  have hY8 := (hY7.out.below hs8).below hA
  have hg8 := hid ((hg7.out.below hs8).below hA)
  have hv8 := hid ((hv7.out.below hs8).below hA)
  have hh8 := hid (hho.below hA)
  have hb8a := hb7.out.trans (hs8.mono hb7.out.size)
  have hb8 := hid (hb8a.trans (hA.mono hb8a.size))
  clear hX7 hY7 hg7 hv7 hb7 hs8 hho hA hb8a
  have x0 := hX8.cell 0 rfl
  have x1 := hX8.cell 1 rfl
  have z0 := hZ.cell 0 rfl
  have z1 := hZ.cell 1 rfl
  go_wp2_with fail
  generalize w8.alloc (.cells #[.int .i64 N, .slice ha hn hc] 40) = w9 at *
  refine (eqB N N _ _ L L w9 hh8.out.reads hv8.out.reads).mono ?_
  rintro e wa ⟨rfl, hsa⟩
  rw [show (N == N && decide (L = L)) = true by simp]
  have hYa := hY8.below hsa
  have hga := hid (hg8.out.below hsa)
  have hba := hid (hb8.out.trans (hsa.mono hb8.out.size))
  clear x0 x1 z0 z1 hX8 hY8 hg8 hv8 hh8 hb8 hsa hZ
  have y0 := hYa.cell 0 rfl
  have y1 := hYa.cell 1 rfl
  go_wp2_with fail
  refine (heldB N _ L.length 1 wa hga.out (by omega) (by omega) (by omega)).mono ?_
  rintro e wb ⟨rfl, hsb⟩
  have hbb := hid (hba.out.trans (hsb.mono hba.out.size))
  clear y0 y1 hYa hga hba hsb
  go_wp2_with fail
  go_ret
  exact ⟨rfl, hbb.out⟩


end Go.Proofs.YtkgdbobhppmaiaaDoor
