/- Walk of the law on equal braids and their normal forms. -/
import Derived.Test.YtmeccemnmkobbaaSrr
import Derived.Test.YtmeccemnmkobbaaLnf
namespace Go.Proofs.Ytmeccemnmkobbaa
open Go.RowKit
open Pm

theorem lv_of {n : Nat} {l : List Int} (h : ∀ i, i < l.length → nth l i ≠ 0 ∧ 1 - (n : Int) ≤ nth l i ∧ nth l i ≤ n - 1) : ∀ k ∈ l, Lv n k := by
  intro k hk
  obtain ⟨i, hi, rfl⟩ := List.mem_iff_getElem.1 hk
  have := h i hi
  have e : nth l i = l[i] := by simp [nth, hi]
  rw [e] at this
  exact ⟨this.1, by omega⟩
theorem alloc_set2 (w : World) (a b c d : Value) (t : TypeId) : ((w.alloc (.cells #[a, b] t)).setCell ⟨w.heap.size, 0, none⟩ c).setCell ⟨w.heap.size, 1, none⟩ d = w.alloc (.cells #[c, d] t) := by
  simp only [World.setCell, World.alloc]
  congr 1
  apply Array.ext_getElem?
  intro i
  rw [Array.getElem?_modify, Array.getElem?_modify]
  by_cases h : w.heap.size = i
  · subst h
    simp
  · have h' : ¬ i = w.heap.size := fun e => h e.symm
    simp [h, h', Array.getElem?_push]

/-- what stands in memory while the second word is changed: both results' places, the first braid in block x, the second in block g -/
structure EqS (w wE : World) (xb g n : Nat) (uv vv : Value) (l m : List Int) (cv : Value) (cs : List Int) (k : Nat) : Prop where
  p : Bx wE w.heap.size [.int .i64 0, .slice none 0 0]
  q : Bx wE (w.heap.size + 1) [.int .i64 0, .slice none 0 0]
  x : Bx wE xb [.int .i64 n, uv]
  b : Bx wE g [.int .i64 n, vv]
  u : Own wE (w.heap.size + 3) 2 uv (ints l)
  v : Own wE (w.heap.size + 3) 2 vv (ints m)
  un : blk uv ≠ some g
  vn : blk vv ≠ some g
  xg : w.heap.size + 3 ≤ xb ∧ xb < g
  s : Src wE (w.heap.size + 1 + 1) cv cs k
  bl : Below w.heap.size w wE
theorem EqS.step {w wE w' : World} {x g n : Nat} {uv vv v' : Value} {l m m' : List Int} {cv : Value} {cs : List Int} {k k' : Nat} (h : EqS w wE x g n uv vv l m cv cs k) (hg : GrG wE w' (w.heap.size + 1 + 1)) (hv : Own w' wE.heap.size 2 v' (ints m')) (hs : Src w' (w.heap.size + 1 + 1) cv cs k') :
    EqS w (w'.setCell ⟨g, 1, none⟩ v') x g n uv v' l m' cv cs k' := by
  have hgl := h.b.lt
  have hx := h.xg
  have hz := h.bl.size
  have hz' := hg.size
  have hvn : blk v' ≠ some g := fun e => by have := (hv.blk_lt e).1; omega
  have hS := hs.grown (grown_cell w' g 1 v') (fun q hq => by injection hq with hq; omega)
  refine ⟨(h.p.grG hg (by omega)).other (a := ⟨g, 1, none⟩) (by simp; omega) _, (h.q.grG hg (by omega)).other (a := ⟨g, 1, none⟩) (by simp; omega) _, (h.x.grG hg (by omega)).other (a := ⟨g, 1, none⟩) (by simp; omega) _, (h.b.grG hg (by omega)).set 1 v', ?_, ?_, h.un, hvn, h.xg, hS, ?_⟩
  · exact (hg.own h.u (by omega)).other (a := ⟨g, 1, none⟩) h.un v'
  · exact (hv.mono (by omega)).other (a := ⟨g, 1, none⟩) hvn v'
  · have hb : Below w.heap.size w w' := ⟨hg.os.trans h.bl.os, hg.tape.trans h.bl.tape, hg.output.trans h.bl.output, Nat.le_trans hz hz', fun k hk => (hg.block k (by omega) (by omega)).trans (h.bl.block k hk)⟩
    exact hb.setCell (p := ⟨g, 1, none⟩) (by show w.heap.size ≤ g; omega) v'
theorem EqS.first {w w4 : World} {x n g : Nat} {uv v : Value} {l : List Int} {cv : Value} {cs : List Int} {k : Nat} (hx : w.heap.size + 3 ≤ x ∧ x < g) (hu : Own w4 (w.heap.size + 3) 2 uv (ints l)) (hP : Bx w4 w.heap.size [.int .i64 0, .slice none 0 0]) (hQ : Bx w4 (w.heap.size + 1) [.int .i64 0, .slice none 0 0])
    (hX : Bx w4 x [.int .i64 n, uv]) (hB : Bx w4 g [.int .i64 0, .slice none 0 0]) (hS : Src w4 (w.heap.size + 1 + 1) cv cs k) (hb : Below w.heap.size w w4) (hv : Own w4 (w.heap.size + 3) 2 v (ints l)) (hun : blk uv ≠ some g) (hvn : blk v ≠ some g) :
    EqS w ((w4.setCell ⟨g, 0, none⟩ (.int .i64 n)).setCell ⟨g, 1, none⟩ v) x g n uv v l l cv cs k := by
  have hS1 := hS.grown (grown_cell w4 g 0 (.int .i64 n)) (fun q hq => by injection hq with hq; omega)
  have hS2 := hS1.grown (grown_cell _ g 1 v) (fun q hq => by injection hq with hq; omega)
  refine ⟨(hP.other (a := ⟨g, 0, none⟩) (by simp; omega) _).other (a := ⟨g, 1, none⟩) (by simp; omega) _, (hQ.other (a := ⟨g, 0, none⟩) (by simp; omega) _).other (a := ⟨g, 1, none⟩) (by simp; omega) _, (hX.other (a := ⟨g, 0, none⟩) (by simp; omega) _).other (a := ⟨g, 1, none⟩) (by simp; omega) _, (hB.set 0 _).set 1 v, ?_, ?_, hun, hvn, hx, hS2, ?_⟩
  · exact (hu.other (a := ⟨g, 0, none⟩) hun _).other (a := ⟨g, 1, none⟩) hun _
  · exact (hv.other (a := ⟨g, 0, none⟩) hvn _).other (a := ⟨g, 1, none⟩) hvn _
  · exact (hb.setCell (p := ⟨g, 0, none⟩) (by show w.heap.size ≤ g; omega) _).setCell (p := ⟨g, 1, none⟩) (by show w.heap.size ≤ g; omega) _
theorem eqs_all {w w2 w3 : World} {n : Nat} {uv : Value} {l : List Int} {cv : Value} {cs : List Int} {k B1 : Nat} {w4 : World} (hB1 : w.heap.size + 3 ≤ B1) (hu2 : Own w2 B1 2 uv (ints l)) (hk3 : ∀ i, i < w2.heap.size → w3.heap[i]? = w2.heap[i]?)
    (hP : Bx w3 w.heap.size [.int .i64 0, .slice none 0 0]) (hQ : Bx w3 (w.heap.size + 1) [.int .i64 0, .slice none 0 0]) (hX : Bx w3 w2.heap.size [.int .i64 n, uv]) (hS : Src w3 (w.heap.size + 1 + 1) cv cs k) (hb : Below w.heap.size w w3) (h34 : Below w3.heap.size w3 w4) :
    Own w4 (w.heap.size + 3) 2 uv (ints l) ∧ Bx w4 w.heap.size [.int .i64 0, .slice none 0 0] ∧ Bx w4 (w.heap.size + 1) [.int .i64 0, .slice none 0 0] ∧ Bx w4 w2.heap.size [.int .i64 n, uv] ∧ Src w4 (w.heap.size + 1 + 1) cv cs k ∧ Below w.heap.size w w4 ∧ (∀ g, w2.heap.size ≤ g → blk uv ≠ some g) :=
  ⟨((hu2.keep fun i hi hl => hk3 i hl).below h34).mono hB1, hP.below h34, hQ.below h34, hX.below h34, hS.next h34, hb.trans (h34.mono hb.size), fun g hg e => by have := (hu2.blk_lt e).2; omega⟩

set_option maxRecDepth 100000 in
set_option maxHeartbeats 16000000 in
theorem e8equal (cv : Value) (cs : List Int) (w : World) (h : Reads w cv (bytes cs)) (hr : ∀ i, i < cs.length → 0 ≤ nth cs i ∧ nth cs i ≤ 255) (hs : cs.length ≤ 1048576) :
    Calls Try.prog 41 #[cv] w fun e w' => ∃ (n : Nat) (u v : Value) (l m : List Int), e = .returned (.tuple #[.agg #[.int .i64 n, u], .agg #[.int .i64 n, v]]) ∧ n ≤ 5 ∧ Own w' w.heap.size 2 u (ints l) ∧ Own w' w.heap.size 2 v (ints m) ∧ Wrd n 8 l ∧ m.length ≤ 15 ∧ Rels n l m ∧ Below w.heap.size w w' := by
  have hP0 := (Bx.new w #[.int .i64 0, .slice none 0 0] 35).alloc (.cells #[.int .i64 0, .slice none 0 0] 35)
  have hQ0 := Bx.new (w.alloc (.cells #[.int .i64 0, .slice none 0 0] 35)) #[.int .i64 0, .slice none 0 0] 35
  have hb0 : Below w.heap.size w ((w.alloc (.cells #[.int .i64 0, .slice none 0 0] 35)).alloc (.cells #[.int .i64 0, .slice none 0 0] 35)) := ((Below.refl _ _).alloc (Nat.le_refl _) _).alloc (by simp) _
  have hz0 : ((w.alloc (.cells #[.int .i64 0, .slice none 0 0] 35)).alloc (.cells #[.int .i64 0, .slice none 0 0] 35)).heap.size = w.heap.size + 1 + 1 := by simp
  simp only [World.size_alloc] at hQ0
  have hR0 := h.below hb0
  go_enter Try.func41, Try.ntmps41
  go_wp2_with fail
  generalize ((w.alloc (.cells #[.int .i64 0, .slice none 0 0] 35)).alloc (.cells #[.int .i64 0, .slice none 0 0] 35)) = w0 at *
  clear h
  refine (from_src cv cs w0 hR0 hr hs).mono ?_
  rintro e w1 ⟨rfl, hS1, hb1⟩
  have hz1 := hb1.size
  have hP1 := hP0.below hb1
  have hQ1 := hQ0.below hb1
  have hgl : w0.heap.size < w1.heap.size := by obtain ⟨⟨a, s, h1, h2, h3, hX⟩, -⟩ := hS1; exact hX.lt
  rw [hz0] at hS1 hgl
  clear hP0 hQ0 hR0
  go_wp2_with fail
  refine (draw_src (w.heap.size + 1 + 1) cv cs 0 w1 hS1 (by omega) hgl).mono ?_
  rintro e w2 ⟨n, u, l, rfl, hn, hu, hW, hS2, hG2⟩
  have hz2 := hG2.size
  obtain ⟨ua, un, uc, rfl⟩ := own_lit' hu
  have hP2 := (hP1.grG hG2 (by omega)).alloc (.cells #[.int .i64 n, .slice ua un uc] 35)
  have hQ2 := (hQ1.grG hG2 (by omega)).alloc (.cells #[.int .i64 n, .slice ua un uc] 35)
  have hX2 := Bx.new w2 #[.int .i64 n, .slice ua un uc] 35
  have hA2 := (Below.refl w2.heap.size w2).alloc (Nat.le_refl _) (.cells #[.int .i64 n, .slice ua un uc] 35)
  have hu2 := hu.below hA2
  have hu3 := hid hu
  have hk3 := hid (fun (i : Nat) (hi : i < w2.heap.size) => heap_alloc_old w2 (.cells #[.int .i64 n, .slice ua un uc] 35) hi)
  have hS2' := hS2.next hA2
  have hbA := (((hb0.trans (hb1.mono (by omega))).trans ((hG2.below (by omega)).mono (by omega))).trans (hA2.mono (by omega)))
  have hzA : (w2.alloc (.cells #[.int .i64 n, .slice ua un uc] 35)).heap.size = w2.heap.size + 1 := by simp
  clear hP1 hQ1 hS1 hS2 hu hA2 hG2 hb1 hb0
  replace hu2 := hid hu2
  replace hbA := hid hbA
  replace hW := hid hW
  go_wp2_with fail
  generalize w2.alloc (.cells #[.int .i64 n, .slice ua un uc] 35) = w3 at *
  replace hzA := hid hzA
  have hP3 := hid hP2
  have hQ3 := hid hQ2
  have hX3 := hid hX2
  have hS3 := hid hS2'
  have c0 := hX2.cell 0 rfl
  have c1 := hX2.cell 1 rfl
  have d0 := (hX2.alloc (.cells #[.int .i64 0, .slice none 0 0] 35)).cell 0 rfl
  have d1 := (hX2.alloc (.cells #[.int .i64 0, .slice none 0 0] 35)).cell 1 rfl
  have hC := hid (fun (w' : World) (hw : Below w3.heap.size w3 w') => own_copy (.slice ua un uc) l w' (hu2.out.reads.below hw) (by have := hW.out.1; omega))
  have hbD := hid ((Below.refl w3.heap.size w3).drew)
  have hbB := hid ((Below.refl w3.heap.size w3).drew.alloc (Nat.le_refl _) (.cells #[.int .i64 0, .slice none 0 0] 35))
  have hbC := hid (((Below.refl w3.heap.size w3).alloc (Nat.le_refl _) (.cells #[.int .i64 0, .slice none 0 0] 35)).drew)
  clear hP2 hQ2 hX2 hS2'
  go_wp2_with fail
  go_region_law (refine step_call (hC.out _ (by first | exact hbD.out | exact hbB.out | exact hbC.out)) (fun _ => by kernel_rfl) rfl (.tmp 15) rfl (by simp [Act.eval]) ?_; rintro e w4 ⟨v, rfl, hv, hs4⟩; refine ⟨_, rfl, ?_⟩; obtain ⟨va, vn, vc, rfl⟩ := own_lit' hv; have hX4 : Bx w4 w2.heap.size _ := (by first | exact (hX3.out.drew).below hs4 | exact ((hX3.out.drew).alloc (.cells #[.int .i64 0, .slice none 0 0] 35)).below hs4 | exact ((hX3.out.alloc (.cells #[.int .i64 0, .slice none 0 0] 35)).drew).below hs4); have x0 := hX4.cell 0 rfl; have x1 := hX4.cell 1 rfl; have y0 := (hX4.alloc (.cells #[.int .i64 0, .slice none 0 0] 35)).cell 0 rfl; have y1 := (hX4.alloc (.cells #[.int .i64 0, .slice none 0 0] 35)).cell 1 rfl; (first | (have hB4 : Bx w4 w3.heap.size [.int .i64 0, .slice none 0 0] := (by first | exact (Bx.new w3.drew #[.int .i64 0, .slice none 0 0] 35).below hs4 | exact (Bx.new w3 #[.int .i64 0, .slice none 0 0] 35).drew.below hs4); have e0 := hB4.cell 0 rfl; have e1 := hB4.cell 1 rfl; have f0 := hB4.frozen 0; have f1 := hB4.frozen 1) | skip); clear hX4)
  all_goals
    have hz4 := hs4.size
    clear c0 c1 d0 d1 x0 x1 y0 y1
    first
      | (have h34 : Below w3.heap.size w3 (w4.alloc (.cells #[.int .i64 n, .slice va vn vc] 35)) := (hbD.out.trans hs4).alloc (by simpa using hz4) _
         obtain ⟨a1, a2, a3, a4, a5, a6, a7⟩ := eqs_all (by omega) hu3.out hk3.out hP3.out hQ3.out hX3.out hS3.out hbA.out h34
         have hzE : w.heap.size + 3 ≤ w3.heap.size := by have := hzA.out; omega
         have hE : EqS w (w4.alloc (.cells #[.int .i64 n, .slice va vn vc] 35)) w2.heap.size w4.heap.size n (.slice ua un uc) (.slice va vn vc) l l cv cs (0 + 44) := ⟨a2, a3, a4, Bx.new w4 _ _, a1, own_alloc (hv.mono (by simp; omega)) _, a7 _ (by have := hzA.out; simp at hz4; omega), (fun e => by have := (hv.blk_lt e).2; omega), ⟨by omega, by have := hzA.out; simp at hz4; omega⟩, a5, a6⟩
         try rw [alloc_set2]
         generalize w4.alloc (.cells #[.int .i64 n, .slice va vn vc] 35) = wE at *
         generalize w4.heap.size = g at *)
      | (have h34 : Below w3.heap.size w3 w4 := by first | exact hbB.out.trans (hs4.mono (by simp)) | exact hbC.out.trans (hs4.mono (by simp))
         obtain ⟨a1, a2, a3, a4, a5, a6, a7⟩ := eqs_all (by omega) hu3.out hk3.out hP3.out hQ3.out hX3.out hS3.out hbA.out h34
         have hzE : w.heap.size + 3 ≤ w3.heap.size := by have := hzA.out; omega
         have hE := EqS.first (g := w3.heap.size) ⟨by omega, by have := hzA.out; omega⟩ a1 a2 a3 a4 hB4 a5 a6 (hv.mono (by simp; omega)) (a7 _ (by have := hzA.out; omega)) (fun e => by have := (hv.blk_lt e).1; simp at this; omega)
         clear e0 e1 f0 f1
         generalize (w4.setCell ⟨w3.heap.size, 0, none⟩ (.int .i64 n)).setCell ⟨w3.heap.size, 1, none⟩ (.slice va vn vc) = wE at *
         generalize w3.heap.size = g at *)
    clear a1 a2 a3 a4 a5 a6 a7 h34 hzE hbD hbB hbC hC hP3 hQ3 hX3 hS3 hbA hu2 hu3 hk3 hs4 hz4 hv hzA
    generalize w2.heap.size = x at *
    replace hE := hid hE
    go_wp2_with fail
    go_loopw [7] (fun i wr => ∃ (j : Nat) (m : List Int) (va : Option Addr) (vn vc : Nat), j ≤ 3 ∧ i = .int .i64 j ∧ m.length ≤ 15 ∧ Rels n l m ∧ EqS w wr x g n (.slice ua un uc) (.slice va vn vc) l m cv cs (44 + 60 * j)) (fun i _ => 3 - (intOf i).toNat)
    case atStart => exact ⟨0, l, va, vn, vc, by omega, rfl, by have := hW.out.1; omega, Rels.refl l, hE.out⟩
    case round =>
      clear hE
      obtain ⟨j, m, va, vn, vc, hj, rfl, hml, hRl, hE⟩ := hrel
      have c0 := hE.x.cell 0 rfl
      have c1 := hE.x.cell 1 rfl
      have d0 := hE.b.cell 0 rfl
      have d1 := hE.b.cell 1 rfl
      have f1 := hE.b.frozen 1
      replace hRl := hid hRl
      replace hE := hid hE
      by_cases hgo : j < 3 ∧ 1 < n
      · obtain ⟨hj3, hn1⟩ := hgo
        go_wp2_with fail
        refine (relate_src (w.heap.size + 1 + 1) cv (.slice va vn vc) cs m (44 + 60 * j) n wr hE.out.s hE.out.v.reads (by omega) (by omega) (by omega) (by have := hE.out.xg; have := hE.out.b.lt; omega) hml (hRl.out.lv (lv_of hW.out.2))).mono ?_
        rintro e w' ⟨v', m', rfl, hv', hm', hR', hS', hG'⟩
        obtain ⟨va', vn', vc', rfl⟩ := own_lit' hv'
        have hE' := hid (hE.out.step hG' hv' hS')
        have hb' := hE.out.b.grG hG' (by have := hE.out.xg; omega)
        have e1 := hb'.cell 1 rfl
        have f1' := hb'.frozen 1
        clear hG' hv' hS' hb' c0 c1 d0 d1 f1
        replace hR' := hid (hRl.out.trans hR')
        go_wp2_with fail
        go_roundw
        case rel => exact ⟨j + 1, m', va', vn', vc', by omega, by go_num, hm', hR'.out, hE'.out⟩
        case measure => simp [intOf] <;> omega
      · have p0 := hE.out.p.cell 0 rfl
        have p1 := hE.out.p.cell 1 rfl
        have q0 := hE.out.q.cell 0 rfl
        have q1 := hE.out.q.cell 1 rfl
        have fp0 := hE.out.p.frozen 0
        have fp1 := hE.out.p.frozen 1
        have fq0 := hE.out.q.frozen 0
        have fq1 := hE.out.q.frozen 1
        have hx := hE.out.xg
        by_cases hj3 : j < 3
        all_goals
          try have hn1 : ¬ (1 : Int) < n := by omega
          go_wp2_with fail
          go_region
          have hP4 := hE.out.p
          have hQ4 := hE.out.q
          have hPF := hid ((((hP4.set 0 (.int .i64 n)).set 1 (.slice ua un uc)).other (a := ⟨w.heap.size + 1, 0, none⟩) (by simp) (.int .i64 n)).other (a := ⟨w.heap.size + 1, 1, none⟩) (by simp) (.slice va vn vc))
          have hQF := hid ((((hQ4.other (a := ⟨w.heap.size, 0, none⟩) (by simp) (.int .i64 n)).other (a := ⟨w.heap.size, 1, none⟩) (by simp) (.slice ua un uc)).set 0 (.int .i64 n)).set 1 (.slice va vn vc))
          have huE := hid ((((hE.out.u.set_block (g := w.heap.size) (by omega) 0 (.int .i64 n)).set_block (g := w.heap.size) (by omega) 1 (.slice ua un uc)).set_block (g := w.heap.size + 1) (by omega) 0 (.int .i64 n)).set_block (g := w.heap.size + 1) (by omega) 1 (.slice va vn vc))
          have hvE := hid ((((hE.out.v.set_block (g := w.heap.size) (by omega) 0 (.int .i64 n)).set_block (g := w.heap.size) (by omega) 1 (.slice ua un uc)).set_block (g := w.heap.size + 1) (by omega) 0 (.int .i64 n)).set_block (g := w.heap.size + 1) (by omega) 1 (.slice va vn vc))
          have hbE := hid ((((hE.out.bl.setCell (p := ⟨w.heap.size, 0, none⟩) (Nat.le_refl _) (.int .i64 n)).setCell (p := ⟨w.heap.size, 1, none⟩) (Nat.le_refl _) (.slice ua un uc)).setCell (p := ⟨w.heap.size + 1, 0, none⟩) (by simp) (.int .i64 n)).setCell (p := ⟨w.heap.size + 1, 1, none⟩) (by simp) (.slice va vn vc))
          clear hP4 hQ4 hE c0 c1 d0 d1 f1 p0 p1 q0 q1 fp0 fp1 fq0 fq1
          generalize (((wr.setCell ⟨w.heap.size, 0, none⟩ (.int .i64 n)).setCell ⟨w.heap.size, 1, none⟩ (.slice ua un uc)).setCell ⟨w.heap.size + 1, 0, none⟩ (.int .i64 n)).setCell ⟨w.heap.size + 1, 1, none⟩ (.slice va vn vc) = wF at *
          have y0 := hPF.out.cell 0 rfl
          have y1 := hPF.out.cell 1 rfl
          have y2 := hQF.out.cell 0 rfl
          have y3 := hQF.out.cell 1 rfl
          go_wp2_with fail
          refine bodyPost_ret (v := .tuple #[.agg #[.int .i64 n, .slice ua un uc], .agg #[.int .i64 n, .slice va vn vc]]) (by simp [y0, y1, y2, y3, results, Try.results41, go_sem]) rfl ⟨n, _, _, l, m, rfl, hn, (huE.out.drewN 1).mono (by omega), (hvE.out.drewN 1).mono (by omega), hW.out, hml, hRl.out, hbE.out.drew⟩



end Go.Proofs.Ytmeccemnmkobbaa

namespace Go.Proofs.Ytmeccemnmkobbaa
open Go.RowKit
open Pm

theorem below_alloc_self {a w : World} (h : Below a.heap.size a w) (o : Obj) : Below a.heap.size a (w.alloc o) := h.alloc h.size o
theorem wok_lv {n : Nat} {l : List Int} (h : ∀ k ∈ l, Lv n k) : Wok n l := Wok.mk' fun k hk => by
  have := h k hk
  exact ⟨this.1, by have := this.2; omega, by have := this.2; omega⟩
theorem same_val {n : Nat} (x y : Gar.St (Pm n)) : sameN (n : Int) x.1 (vals x.2) n y.1 (vals y.2) = decide (x = y) := by
  unfold sameN
  rw [Bool.eq_iff_iff]
  simp only [Bool.and_eq_true, beq_iff_eq, decide_eq_true_eq, true_and]
  rw [vals_inj]
  constructor
  · rintro ⟨h1, h2⟩; exact Prod.ext h1 h2
  · rintro rfl; exact ⟨rfl, rfl⟩
theorem eqBr_val {n : Nat} {l m : List Int} (hn : n ≤ 12) (hl : l.length ≤ 40) (hm : m.length ≤ 40) (h : Wok n l) (k : Wok n m) : eqBr n l n m = decide (nfW n l = nfW n m) := by
  unfold eqBr
  rw [okB_mk hn hl h, okB_mk hn hm k]
  simp
theorem nfW_nil (n : Nat) : nfW n [] = (0, []) := rfl
theorem triv_val {n : Nat} {l m : List Int} (hn : n ≤ 12) (hl : l.length ≤ 20) (hm : m.length ≤ 20) (h : Wok n l) (k : Wok n m) : trivB n (l ++ invW m) = decide (nfW n l = nfW n m) := by
  unfold trivB
  rw [okB_mk hn (by simp [invW]; omega) (h.app k.inv)]
  rw [Bool.true_and, decide_eq_decide, Int.toNat_natCast, ← eqw_iff h k, nfW_nil]
  constructor
  · intro e; rw [e]; exact ⟨rfl, rfl⟩
  · rintro ⟨e1, e2⟩; exact Prod.ext e1 (List.eq_nil_of_length_eq_zero e2)
theorem vinv_ok {n : Nat} {l : List Int} (hn : n ≤ 12) (hl : l.length ≤ 40) (hk : Wok n l) (v : Value) (w : World) (h : Reads w v (ints l)) :
    Calls Try.prog 52 #[.agg #[.int .i64 n, v]] w fun e w' => ∃ u, e = .returned (.agg #[.int .i64 n, u]) ∧ Own w' w.heap.size 2 u (ints (invW l)) ∧ Below w.heap.size w w' := by
  have e := okB_mk hn hl hk
  refine (vinv_spec n v l w h).mono ?_
  rintro e2 w' ⟨u, rfl, ho, hb⟩
  have e3 : okL (n : Int) l (invW l) = invW l := by unfold okL; rw [if_pos e]
  have e4 : okN (n : Int) l = n := by unfold okN; rw [if_pos e]
  rw [e3] at ho
  rw [e4]
  exact ⟨u, rfl, ho, hb⟩
theorem below_set2 {B g : Nat} {a w : World} (h : Below B a w) (hg : B ≤ g) (x y : Value) : Below B a ((w.setCell ⟨g, 0, none⟩ x).setCell ⟨g, 1, none⟩ y) := (h.setCell (p := ⟨g, 0, none⟩) hg x).setCell (p := ⟨g, 1, none⟩) hg y
theorem below_chain {a b c d : World} (h1 : Below a.heap.size a b) (h2 : Below b.heap.size b c) (h3 : Below c.heap.size c d) : Below a.heap.size a d := (h1.trans (h2.mono h1.size)).trans (h3.mono (Nat.le_trans h1.size h2.size))
theorem calls_from {P : Program} {f : FuncId} {args : Array Value} {a w : World} {v : Value} (hc : Calls P f args w fun e w' => e = .returned v ∧ Below w.heap.size w w') (h : Below a.heap.size a w) : Calls P f args w fun e w' => e = .returned v ∧ Below a.heap.size a w' :=
  hc.mono fun _ _ hh => ⟨hh.1, h.trans (hh.2.mono h.size)⟩
theorem jb_own {n : Nat} {l m : List Int} (hn : n ≤ 12) (hl : l.length ≤ 20) (hm : m.length ≤ 20) (hk : Wok n l) (hk' : Wok n m) (v u : Value) (w : World) (h : Reads w v (ints l)) (h' : Reads w u (ints m)) :
    Calls Try.prog 25 #[.agg #[.int .i64 n, v], .agg #[.int .i64 n, u]] w fun e w' => ∃ x, e = .returned (.tuple #[.agg #[.int .i64 n, x], .int .i64 0]) ∧ Own w' w.heap.size 2 x (ints (l ++ m)) ∧ Below w.heap.size w w' := by
  have e := okB_mk hn (by omega) hk
  have e' := okB_mk hn (by omega) hk'
  have hc : codeJ n l n m = 0 := by unfold codeJ; rw [e, e']; simp; omega
  refine (vjoin_spec n v l n u m w h h').mono ?_
  rintro e2 w' ⟨x, rfl, ho, hb⟩
  have e3 : lJ (n : Int) l n m = l ++ m := by unfold lJ; rw [hc]; rfl
  refine ⟨x, ?_, by rw [← e3]; exact ho, hb⟩
  unfold nJ; rw [hc]; rfl
/-- a call of a Go function with two arguments, as one step of a region that draws -/
theorem step_call2 {P : Program} {w : World} {ops : Array Oper} {o : Oper} {a : Act} {K : Act → World → Prop} {Q : Exit → Act → World → Prop} {E : Prop} {f : FuncId} {u1 u2 : Value} {T1 T2 : TypeId} {R : Ending → World → Prop}
    (hc : Calls P f #[u1, u2] w R) (hf : ∀ w, (callFunc f #[u1, u2]).run P w = .ok (.enter f #[u1, u2]) w) (hg : o.guard = none) (x y : Operand)
    (ho : o.op = .call { callee := .value (.func f), args := #[x, y], argTypes := #[T1, T2] }) (hx : a.eval x = u1) (hy : a.eval y = u2)
    (hK : ∀ e w', R e w' → ∃ v, e = .returned v ∧ K (a.put o.dst v) w') : if Region.wanted o (yielded ops a.tmps) = true then Oper.wp P o a w K Q else E := by
  have hw : Region.wanted o (yielded ops a.tmps) = true := by simp [Region.wanted, hg]
  rw [if_pos hw]
  unfold Oper.wp
  have hr : (execOp a.eval o).run P w = .ok (.enter f #[u1, u2]) w := by
    have hx' : Act.eval a x = u1 := hx
    have hy' : Act.eval a y = u2 := hy
    have h0 : a.eval (.func f) = .func (.func f) #[] #[] := rfl
    simp [execOp, ho, resolve, invoke, hx', hy', h0, Deferred.ofValue, hf]
  rw [hr]
  refine hc.mono ?_
  intro e w' hr
  obtain ⟨v, rfl, hk⟩ := hK e w' hr
  exact hk


set_option maxRecDepth 100000 in
set_option maxHeartbeats 16000000 in
theorem walk_FnNormalUnique (a0 : Value) (cs : List Int) (W : World) (h0 : Reads W a0 (bytes cs)) (hr : ∀ i, i < cs.length → 0 ≤ nth cs i ∧ nth cs i ≤ 255) :
    Calls Try.prog 12 #[a0] W fun e w' => e = .returned (.bool true) ∧ Below W.heap.size W w' := by
  have hlen := h0.len (P := Try.prog) 31 3 ⟨_, sliceY⟩
  rw [length_bytes] at hlen
  have hb : Below W.heap.size W W := Below.refl _ _
  go_enter Try.func12, Try.ntmps12
  by_cases hl : (1048576 : Int) < cs.length
  · go_wp2_with fail
    go_ret
    exact ⟨rfl, hb⟩
  go_wp2_with fail
  clear hlen
  refine (e8equal a0 cs W h0 hr (by omega)).mono ?_
  rintro e w1 ⟨n, u, v, l, m, rfl, hn, hu, hv, hWl, hlm, hRl, hs⟩
  replace h0 := h0.below hs
  replace hb := hb.trans (hs.mono hb.size)
  clear hs
  replace hu := hu.reads
  replace hv := hv.reads
  obtain ⟨ua, un, uc, rfl⟩ := hu.lit
  obtain ⟨va, vn, vc, rfl⟩ := hv.lit
  have hkl : Wok n l := hWl.2
  have hll := hWl.1
  have hkm : Wok n m := wok_lv (hRl.lv (lv_of hWl.2))
  have hnf := hid (hRl.nfW (lv_of hWl.2))
  replace hkl := hid hkl
  replace hkm := hid hkm
  clear hWl hRl
  replace h0 := h0.alloc (.cells #[.int .i64 n, .slice ua un uc] 35)
  replace hu := hu.alloc (.cells #[.int .i64 n, .slice ua un uc] 35)
  replace hv := hv.alloc (.cells #[.int .i64 n, .slice ua un uc] 35)
  have hA := Bx.new w1 #[.int .i64 n, .slice ua un uc] 35
  replace hb := hb.alloc hb.size (.cells #[.int .i64 n, .slice ua un uc] 35)
  replace h0 := h0.alloc (.cells #[.int .i64 n, .slice va vn vc] 35)
  replace hu := hu.alloc (.cells #[.int .i64 n, .slice va vn vc] 35)
  replace hv := hv.alloc (.cells #[.int .i64 n, .slice va vn vc] 35)
  replace hA := hA.alloc (.cells #[.int .i64 n, .slice va vn vc] 35)
  have hB := Bx.new (w1.alloc (.cells #[.int .i64 n, .slice ua un uc] 35)) #[.int .i64 n, .slice va vn vc] 35
  simp only [World.size_alloc] at hB
  replace hb := hb.alloc hb.size (.cells #[.int .i64 n, .slice va vn vc] 35)
  have c_a0 := hA.cell 0 rfl
  have c_a1 := hA.cell 1 rfl
  have c_b0 := hB.cell 0 rfl
  have c_b1 := hB.cell 1 rfl
  go_wp2_with fail
  clear c_a0 c_a1 c_b0 c_b1
  generalize ((w1.alloc (.cells #[.int .i64 n, .slice ua un uc] 35)).alloc (.cells #[.int .i64 n, .slice va vn vc] 35)) = w2 at *
  refine (nf_ok (by omega) (by omega) hkl.out _ _ hu).mono ?_
  rintro e w3 ⟨x, rfl, hx, hs⟩
  replace h0 := h0.below hs
  replace hu := hu.below hs
  replace hv := hv.below hs
  replace hA := hA.below hs
  replace hB := hB.below hs
  replace hb := hb.trans (hs.mono hb.size)
  clear hs
  obtain ⟨xa, xn, xc, rfl⟩ := hx.lit
  replace h0 := h0.alloc (.cells #[.int .i64 n, .int .i64 (nfW n l).1, .slice xa xn xc] 27)
  replace hu := hu.alloc (.cells #[.int .i64 n, .int .i64 (nfW n l).1, .slice xa xn xc] 27)
  replace hv := hv.alloc (.cells #[.int .i64 n, .int .i64 (nfW n l).1, .slice xa xn xc] 27)
  replace hx := hx.alloc (.cells #[.int .i64 n, .int .i64 (nfW n l).1, .slice xa xn xc] 27)
  replace hA := hA.alloc (.cells #[.int .i64 n, .int .i64 (nfW n l).1, .slice xa xn xc] 27)
  replace hB := hB.alloc (.cells #[.int .i64 n, .int .i64 (nfW n l).1, .slice xa xn xc] 27)
  have hX := Bx.new w3 #[.int .i64 n, .int .i64 (nfW n l).1, .slice xa xn xc] 27
  replace hb := hb.alloc hb.size (.cells #[.int .i64 n, .int .i64 (nfW n l).1, .slice xa xn xc] 27)
  have c_a0 := hA.cell 0 rfl
  have c_a1 := hA.cell 1 rfl
  have c_b0 := hB.cell 0 rfl
  have c_b1 := hB.cell 1 rfl
  have c_x0 := hX.cell 0 rfl
  have c_x1 := hX.cell 1 rfl
  have c_x2 := hX.cell 2 rfl
  go_wp2_with fail
  clear c_a0 c_a1 c_b0 c_b1 c_x0 c_x1 c_x2
  generalize (w3.alloc (.cells #[.int .i64 n, .int .i64 (nfW n l).1, .slice xa xn xc] 27)) = w4 at *
  refine (nf_ok (by omega) (by omega) hkm.out _ _ hv).mono ?_
  rintro e w5 ⟨y, rfl, hy, hs⟩
  replace h0 := h0.below hs
  replace hu := hu.below hs
  replace hv := hv.below hs
  replace hx := hx.below hs
  replace hA := hA.below hs
  replace hB := hB.below hs
  replace hX := hX.below hs
  replace hb := hb.trans (hs.mono hb.size)
  clear hs
  obtain ⟨ya, yn, yc, rfl⟩ := hy.lit
  replace h0 := h0.alloc (.cells #[.int .i64 n, .int .i64 (nfW n m).1, .slice ya yn yc] 27)
  replace hu := hu.alloc (.cells #[.int .i64 n, .int .i64 (nfW n m).1, .slice ya yn yc] 27)
  replace hv := hv.alloc (.cells #[.int .i64 n, .int .i64 (nfW n m).1, .slice ya yn yc] 27)
  replace hx := hx.alloc (.cells #[.int .i64 n, .int .i64 (nfW n m).1, .slice ya yn yc] 27)
  replace hy := hy.alloc (.cells #[.int .i64 n, .int .i64 (nfW n m).1, .slice ya yn yc] 27)
  replace hA := hA.alloc (.cells #[.int .i64 n, .int .i64 (nfW n m).1, .slice ya yn yc] 27)
  replace hB := hB.alloc (.cells #[.int .i64 n, .int .i64 (nfW n m).1, .slice ya yn yc] 27)
  replace hX := hX.alloc (.cells #[.int .i64 n, .int .i64 (nfW n m).1, .slice ya yn yc] 27)
  have hY := Bx.new w5 #[.int .i64 n, .int .i64 (nfW n m).1, .slice ya yn yc] 27
  replace hb := hb.alloc hb.size (.cells #[.int .i64 n, .int .i64 (nfW n m).1, .slice ya yn yc] 27)
  have c_a0 := hA.cell 0 rfl
  have c_a1 := hA.cell 1 rfl
  have c_b0 := hB.cell 0 rfl
  have c_b1 := hB.cell 1 rfl
  have c_x0 := hX.cell 0 rfl
  have c_x1 := hX.cell 1 rfl
  have c_x2 := hX.cell 2 rfl
  have c_y0 := hY.cell 0 rfl
  have c_y1 := hY.cell 1 rfl
  have c_y2 := hY.cell 2 rfl
  go_wp2_with fail
  clear c_a0 c_a1 c_b0 c_b1 c_x0 c_x1 c_x2 c_y0 c_y1 c_y2
  generalize (w5.alloc (.cells #[.int .i64 n, .int .i64 (nfW n m).1, .slice ya yn yc] 27)) = w6 at *
  refine (sn_spec _ _ _ _ _ _ _ _ _ hx hy).mono ?_
  rintro e w7 ⟨rfl, hs⟩
  replace h0 := h0.below hs
  replace hu := hu.below hs
  replace hv := hv.below hs
  replace hx := hx.below hs
  replace hy := hy.below hs
  replace hA := hA.below hs
  replace hB := hB.below hs
  replace hX := hX.below hs
  replace hY := hY.below hs
  replace hb := hb.trans (hs.mono hb.size)
  clear hs
  rw [same_val, decide_eq_true hnf.out]
  have c_a0 := hA.cell 0 rfl
  have c_a1 := hA.cell 1 rfl
  have c_b0 := hB.cell 0 rfl
  have c_b1 := hB.cell 1 rfl
  have c_x0 := hX.cell 0 rfl
  have c_x1 := hX.cell 1 rfl
  have c_x2 := hX.cell 2 rfl
  have c_y0 := hY.cell 0 rfl
  have c_y1 := hY.cell 1 rfl
  have c_y2 := hY.cell 2 rfl
  go_wp2_with fail
  clear c_a0 c_a1 c_b0 c_b1 c_x0 c_x1 c_x2 c_y0 c_y1 c_y2
  refine (veq_impl _ _ _ _ _ _ _ hu hv).mono ?_
  rintro e w8 ⟨rfl, hs⟩
  replace h0 := h0.below hs
  replace hu := hu.below hs
  replace hv := hv.below hs
  replace hx := hx.below hs
  replace hy := hy.below hs
  replace hA := hA.below hs
  replace hB := hB.below hs
  replace hX := hX.below hs
  replace hY := hY.below hs
  replace hb := hb.trans (hs.mono hb.size)
  clear hs
  rw [eqBr_val (by omega) (by omega) (by omega) hkl.out hkm.out, decide_eq_true hnf.out]
  have c_a0 := hA.cell 0 rfl
  have c_a1 := hA.cell 1 rfl
  have c_b0 := hB.cell 0 rfl
  have c_b1 := hB.cell 1 rfl
  have c_x0 := hX.cell 0 rfl
  have c_x1 := hX.cell 1 rfl
  have c_x2 := hX.cell 2 rfl
  have c_y0 := hY.cell 0 rfl
  have c_y1 := hY.cell 1 rfl
  have c_y2 := hY.cell 2 rfl
  go_wp2_with fail
  clear c_a0 c_a1 c_b0 c_b1 c_x0 c_x1 c_x2 c_y0 c_y1 c_y2
  clear hnf hkl hkm hu hv hx hy hA hB hX hY hll hlm hn
  refine (e8braids a0 cs _ h0 hr (by omega)).mono ?_
  rintro e w9 ⟨n2, p, q, l2, m2, rfl, hn, hp, hq, hWl, hWm, hs⟩
  replace h0 := h0.below hs
  replace hb := hb.trans (hs.mono hb.size)
  clear hs
  replace hp := hp.reads
  replace hq := hq.reads
  obtain ⟨pa, pn, pc, rfl⟩ := hp.lit
  obtain ⟨qa, qn, qc, rfl⟩ := hq.lit
  have hkl : Wok n2 l2 := hWl.2
  have hkm : Wok n2 m2 := hWm.2
  have hll := hWl.1
  have hlm := hWm.1
  replace hkl := hid hkl
  replace hkm := hid hkm
  clear hWl hWm
  replace h0 := h0.alloc (.cells #[.int .i64 n2, .slice pa pn pc] 35)
  replace hp := hp.alloc (.cells #[.int .i64 n2, .slice pa pn pc] 35)
  replace hq := hq.alloc (.cells #[.int .i64 n2, .slice pa pn pc] 35)
  have hP := Bx.new w9 #[.int .i64 n2, .slice pa pn pc] 35
  replace hb := hb.alloc hb.size (.cells #[.int .i64 n2, .slice pa pn pc] 35)
  replace h0 := h0.alloc (.cells #[.int .i64 n2, .slice qa qn qc] 35)
  replace hp := hp.alloc (.cells #[.int .i64 n2, .slice qa qn qc] 35)
  replace hq := hq.alloc (.cells #[.int .i64 n2, .slice qa qn qc] 35)
  replace hP := hP.alloc (.cells #[.int .i64 n2, .slice qa qn qc] 35)
  have hQ := Bx.new (w9.alloc (.cells #[.int .i64 n2, .slice pa pn pc] 35)) #[.int .i64 n2, .slice qa qn qc] 35
  simp only [World.size_alloc] at hQ
  replace hb := hb.alloc hb.size (.cells #[.int .i64 n2, .slice qa qn qc] 35)
  have c_p0 := hP.cell 0 rfl
  have c_p1 := hP.cell 1 rfl
  have c_q0 := hQ.cell 0 rfl
  have c_q1 := hQ.cell 1 rfl
  go_wp2_with fail
  clear c_p0 c_p1 c_q0 c_q1
  generalize ((w9.alloc (.cells #[.int .i64 n2, .slice pa pn pc] 35)).alloc (.cells #[.int .i64 n2, .slice qa qn qc] 35)) = w10 at *
  refine (nf_ok (by omega) (by omega) hkl.out _ _ hp).mono ?_
  rintro e w11 ⟨x, rfl, hx, hs⟩
  replace h0 := h0.below hs
  replace hp := hp.below hs
  replace hq := hq.below hs
  replace hP := hP.below hs
  replace hQ := hQ.below hs
  replace hb := hb.trans (hs.mono hb.size)
  clear hs
  obtain ⟨xa, xn, xc, rfl⟩ := hx.lit
  replace h0 := h0.alloc (.cells #[.int .i64 n2, .int .i64 (nfW n2 l2).1, .slice xa xn xc] 27)
  replace hp := hp.alloc (.cells #[.int .i64 n2, .int .i64 (nfW n2 l2).1, .slice xa xn xc] 27)
  replace hq := hq.alloc (.cells #[.int .i64 n2, .int .i64 (nfW n2 l2).1, .slice xa xn xc] 27)
  replace hx := hx.alloc (.cells #[.int .i64 n2, .int .i64 (nfW n2 l2).1, .slice xa xn xc] 27)
  replace hP := hP.alloc (.cells #[.int .i64 n2, .int .i64 (nfW n2 l2).1, .slice xa xn xc] 27)
  replace hQ := hQ.alloc (.cells #[.int .i64 n2, .int .i64 (nfW n2 l2).1, .slice xa xn xc] 27)
  have hX := Bx.new w11 #[.int .i64 n2, .int .i64 (nfW n2 l2).1, .slice xa xn xc] 27
  replace hb := hb.alloc hb.size (.cells #[.int .i64 n2, .int .i64 (nfW n2 l2).1, .slice xa xn xc] 27)
  have c_p0 := hP.cell 0 rfl
  have c_p1 := hP.cell 1 rfl
  have c_q0 := hQ.cell 0 rfl
  have c_q1 := hQ.cell 1 rfl
  have c_x0 := hX.cell 0 rfl
  have c_x1 := hX.cell 1 rfl
  have c_x2 := hX.cell 2 rfl
  go_wp2_with fail
  clear c_p0 c_p1 c_q0 c_q1 c_x0 c_x1 c_x2
  generalize (w11.alloc (.cells #[.int .i64 n2, .int .i64 (nfW n2 l2).1, .slice xa xn xc] 27)) = w12 at *
  refine (nf_ok (by omega) (by omega) hkm.out _ _ hq).mono ?_
  rintro e w13 ⟨y, rfl, hy, hs⟩
  replace h0 := h0.below hs
  replace hp := hp.below hs
  replace hq := hq.below hs
  replace hx := hx.below hs
  replace hP := hP.below hs
  replace hQ := hQ.below hs
  replace hX := hX.below hs
  replace hb := hb.trans (hs.mono hb.size)
  clear hs
  obtain ⟨ya, yn, yc, rfl⟩ := hy.lit
  replace h0 := h0.alloc (.cells #[.int .i64 n2, .int .i64 (nfW n2 m2).1, .slice ya yn yc] 27)
  replace hp := hp.alloc (.cells #[.int .i64 n2, .int .i64 (nfW n2 m2).1, .slice ya yn yc] 27)
  replace hq := hq.alloc (.cells #[.int .i64 n2, .int .i64 (nfW n2 m2).1, .slice ya yn yc] 27)
  replace hx := hx.alloc (.cells #[.int .i64 n2, .int .i64 (nfW n2 m2).1, .slice ya yn yc] 27)
  replace hy := hy.alloc (.cells #[.int .i64 n2, .int .i64 (nfW n2 m2).1, .slice ya yn yc] 27)
  replace hP := hP.alloc (.cells #[.int .i64 n2, .int .i64 (nfW n2 m2).1, .slice ya yn yc] 27)
  replace hQ := hQ.alloc (.cells #[.int .i64 n2, .int .i64 (nfW n2 m2).1, .slice ya yn yc] 27)
  replace hX := hX.alloc (.cells #[.int .i64 n2, .int .i64 (nfW n2 m2).1, .slice ya yn yc] 27)
  have hY := Bx.new w13 #[.int .i64 n2, .int .i64 (nfW n2 m2).1, .slice ya yn yc] 27
  replace hb := hb.alloc hb.size (.cells #[.int .i64 n2, .int .i64 (nfW n2 m2).1, .slice ya yn yc] 27)
  have c_p0 := hP.cell 0 rfl
  have c_p1 := hP.cell 1 rfl
  have c_q0 := hQ.cell 0 rfl
  have c_q1 := hQ.cell 1 rfl
  have c_x0 := hX.cell 0 rfl
  have c_x1 := hX.cell 1 rfl
  have c_x2 := hX.cell 2 rfl
  have c_y0 := hY.cell 0 rfl
  have c_y1 := hY.cell 1 rfl
  have c_y2 := hY.cell 2 rfl
  go_wp2_with fail
  clear c_p0 c_p1 c_q0 c_q1 c_x0 c_x1 c_x2 c_y0 c_y1 c_y2
  generalize (w13.alloc (.cells #[.int .i64 n2, .int .i64 (nfW n2 m2).1, .slice ya yn yc] 27)) = w14 at *
  obtain ⟨gp, hgp⟩ : ∃ g, g = g := ⟨0, rfl⟩
  clear hgp gp
  have hX0 := hid hX
  have hY0 := hid hY
  have hx0 := hid hx
  have hy0 := hid hy
  clear hX hY hx hy
  have hbD : Below w14.heap.size w14 w14.drew := (Below.refl _ _).drew
  have hbE : Below w14.heap.size w14 (w14.alloc (.cells #[.int .i64 0, .slice none 0 0] 35)).drew := ((Below.refl _ _).alloc (Nat.le_refl _) _).drew
  have hK := hid (fun (w' : World) (h : Below w14.heap.size w14 w') => (⟨(hP.below h).cell 0 rfl, (hP.below h).cell 1 rfl, (hQ.below h).cell 0 rfl, (hQ.below h).cell 1 rfl⟩ : w'.cell? ⟨w9.heap.size, 0, none⟩ = some (.int .i64 n2) ∧ w'.cell? ⟨w9.heap.size, 1, none⟩ = some (.slice pa pn pc) ∧ w'.cell? ⟨w9.heap.size + 1, 0, none⟩ = some (.int .i64 n2) ∧ w'.cell? ⟨w9.heap.size + 1, 1, none⟩ = some (.slice qa qn qc)))
  have hRp := hid (fun (w' : World) (h : Below w14.heap.size w14 w') => hp.below h)
  have hRq := hid (fun (w' : World) (h : Below w14.heap.size w14 w') => hq.below h)
  replace hP := hid hP
  replace hQ := hid hQ
  replace hb := hid hb
  go_region_held3 (fun w' => Below w14.heap.size w14 w' ∧ w'.cell? ⟨w9.heap.size, 0, none⟩ = some (.int .i64 n2) ∧ w'.cell? ⟨w9.heap.size, 1, none⟩ = some (.slice pa pn pc) ∧ w'.cell? ⟨w9.heap.size + 1, 0, none⟩ = some (.int .i64 n2) ∧ w'.cell? ⟨w9.heap.size + 1, 1, none⟩ = some (.slice qa qn qc)) (first | exact ⟨by assumption, hK.out _ (by assumption)⟩ | exact ⟨below_alloc_self (by assumption) _, hK.out _ (below_alloc_self (by assumption) _)⟩ | exact ⟨below_set2 (by assumption) (Nat.le_refl _) _ _, hK.out _ (below_set2 (by assumption) (Nat.le_refl _) _ _)⟩ | exact ⟨below_set2 (by assumption) hbi.size _ _, hK.out _ (below_set2 (by assumption) hbi.size _ _)⟩) ((first | (go_at_call 52; refine (vinv_ok (by omega) (by omega) hkm.out _ _ (hRq.out _ (by first | assumption | exact below_alloc_self (by assumption) _))).mono ?_; rintro e wi ⟨ui, rfl, hoi, hsi⟩; obtain ⟨ia, iN, ic, rfl⟩ := own_lit' hoi; have hRi := hoi.reads; have hzi := hsi.size; (first | (have hbi : Below w14.heap.size w14 wi := hbD.trans (hsi.mono hbD.size)) | (have hbi : Below w14.heap.size w14 wi := hbE.trans (hsi.mono hbE.size); have hBi : Bx wi w14.heap.size [.int .i64 0, .slice none 0 0] := ((Bx.new w14 #[.int .i64 0, .slice none 0 0] 35).drew).below hsi))) | (go_at_call 25; refine (jb_own (by omega) (by omega) (by simp [invW]; omega) hkl.out hkm.out.inv _ _ _ (hRp.out _ (by first | assumption | exact below_alloc_self (by assumption) _)) (by first | exact hRi | exact hRi.alloc _)).mono ?_; rintro e wj ⟨c, rfl, hc, hsj⟩; obtain ⟨ca, cn, cc, rfl⟩ := own_lit' hc; have hzj := hsj.size; (first | (have hbj : Below w14.heap.size w14 wj := hbi.trans (hsj.mono hbi.size); (first | (have hBj : Bx wj w14.heap.size [.int .i64 0, .slice none 0 0] := hBi.below hsj; have q0 := hBj.cell 0 rfl; have q1 := hBj.cell 1 rfl; have qf0 := hBj.frozen 0; have qf1 := hBj.frozen 1) | skip)) | (have hbj : Below w14.heap.size w14 wj := (below_alloc_self hbi _).trans (hsj.mono (below_alloc_self hbi _).size); have hBk : Bx wj wi.heap.size [.int .i64 0, .slice none 0 0] := (Bx.new wi #[.int .i64 0, .slice none 0 0] 35).below hsj; have q0 := hBk.cell 0 rfl; have q1 := hBk.cell 1 rfl; have qf0 := hBk.frozen 0; have qf1 := hBk.frozen 1)))))
  all_goals
    have hzd : w14.drew.heap.size = w14.heap.size := rfl
    have hze : (w14.alloc (.cells #[.int .i64 0, .slice none 0 0] 35)).drew.heap.size = w14.heap.size + 1 := by simp
    have hzk : (wi.alloc (.cells #[.int .i64 0, .slice none 0 0] 35)).heap.size = wi.heap.size + 1 := by simp
    replace hbD := hid hbD
    replace hbE := hid hbE
    first
      | (have hT := (hBj.set 0 (.int .i64 n2)).set 1 (.slice ca cn cc)
         have hne : blk (.slice ca cn cc) ≠ some w14.heap.size := fun e => by have := (hc.blk_lt e).1; omega
         have hcF := (hc.other (a := ⟨w14.heap.size, 0, none⟩) hne (.int .i64 n2)).other (a := ⟨w14.heap.size, 1, none⟩) hne (.slice ca cn cc)
         have hbF := below_set2 hbj (Nat.le_refl w14.heap.size) (.int .i64 n2) (.slice ca cn cc)
         clear q0 q1 qf0 qf1 hne hBj
         generalize ((wj.setCell ⟨w14.heap.size, 0, none⟩ (.int .i64 n2)).setCell ⟨w14.heap.size, 1, none⟩ (.slice ca cn cc)) = wF at *
         have hP2 := hP.out.below hbF
         have hQ2 := hQ.out.below hbF
         have hX2 := hX0.out.below hbF
         have hY2 := hY0.out.below hbF
         have hp2 := hRp.out _ hbF
         have hq2 := hRq.out _ hbF
         have hx2 := hx0.out.below hbF
         have hy2 := hy0.out.below hbF
         have hK2 := hid (fun (w' : World) (h : Below wF.heap.size wF w') => (⟨(hP2.below h).cell 0 rfl, (hP2.below h).cell 1 rfl, (hQ2.below h).cell 0 rfl, (hQ2.below h).cell 1 rfl, (hX2.below h).cell 0 rfl, (hX2.below h).cell 1 rfl, (hX2.below h).cell 2 rfl, (hY2.below h).cell 0 rfl, (hY2.below h).cell 1 rfl, (hY2.below h).cell 2 rfl, (hT.below h).cell 0 rfl, (hT.below h).cell 1 rfl⟩ : w'.cell? ⟨w9.heap.size, 0, none⟩ = some (.int .i64 n2) ∧ w'.cell? ⟨w9.heap.size, 1, none⟩ = some (.slice pa pn pc) ∧ w'.cell? ⟨w9.heap.size + 1, 0, none⟩ = some (.int .i64 n2) ∧ w'.cell? ⟨w9.heap.size + 1, 1, none⟩ = some (.slice qa qn qc) ∧ w'.cell? ⟨w11.heap.size, 0, none⟩ = some (.int .i64 n2) ∧ w'.cell? ⟨w11.heap.size, 1, none⟩ = some (.int .i64 (nfW n2 l2).1) ∧ w'.cell? ⟨w11.heap.size, 2, none⟩ = some (.slice xa xn xc) ∧ w'.cell? ⟨w13.heap.size, 0, none⟩ = some (.int .i64 n2) ∧ w'.cell? ⟨w13.heap.size, 1, none⟩ = some (.int .i64 (nfW n2 m2).1) ∧ w'.cell? ⟨w13.heap.size, 2, none⟩ = some (.slice ya yn yc) ∧ w'.cell? ⟨w14.heap.size, 0, none⟩ = some (.int .i64 n2) ∧ w'.cell? ⟨w14.heap.size, 1, none⟩ = some (.slice ca cn cc)))
         by_cases hD : nfW n2 l2 = nfW n2 m2
         all_goals
           have hC1 := hid (fun (w' : World) (h : Below wF.heap.size wF w') => calls_from (veq_impl n2 _ l2 n2 _ m2 w' (hp2.below h) (hq2.below h)) h)
           have hC2 := hid (fun (w' : World) (h : Below wF.heap.size wF w') => calls_from (sn_spec n2 (nfW n2 l2).1 n2 (nfW n2 m2).1 _ _ (vals (nfW n2 l2).2) (vals (nfW n2 m2).2) w' (hx2.below h) (hy2.below h)) h)
           have hC3 := hid (fun (w' : World) (h : Below wF.heap.size wF w') => calls_from (vtriv_impl n2 _ (l2 ++ invW m2) w' (hcF.reads.below h)) h)
           rw [eqBr_val (by omega) (by omega) (by omega) hkl.out hkm.out] at hC1
           rw [same_val] at hC2
           rw [triv_val (by omega) (by omega) (by omega) hkl.out hkm.out] at hC3
         case' pos => rw [decide_eq_true hD] at hC1 hC2 hC3
         case' neg => rw [decide_eq_false hD] at hC1 hC2 hC3
         all_goals
           have hbG : Below wF.heap.size wF wF.drew := (Below.refl _ _).drew
           have hbZ := hid (hb.out.trans (hbF.mono hb.out.size))
           have c1 := hT.cell 1 rfl
           clear hP2 hQ2 hX2 hY2 hp2 hq2 hx2 hy2 hT hcF hP hQ hX0 hY0 hx0 hy0 hb hRp hRq hK hD hbF
           go_wp2_with fail
           go_region_held3 (fun w' => Below wF.heap.size wF w' ∧ w'.cell? ⟨w9.heap.size, 0, none⟩ = some (.int .i64 n2) ∧ w'.cell? ⟨w9.heap.size, 1, none⟩ = some (.slice pa pn pc) ∧ w'.cell? ⟨w9.heap.size + 1, 0, none⟩ = some (.int .i64 n2) ∧ w'.cell? ⟨w9.heap.size + 1, 1, none⟩ = some (.slice qa qn qc) ∧ w'.cell? ⟨w11.heap.size, 0, none⟩ = some (.int .i64 n2) ∧ w'.cell? ⟨w11.heap.size, 1, none⟩ = some (.int .i64 (nfW n2 l2).1) ∧ w'.cell? ⟨w11.heap.size, 2, none⟩ = some (.slice xa xn xc) ∧ w'.cell? ⟨w13.heap.size, 0, none⟩ = some (.int .i64 n2) ∧ w'.cell? ⟨w13.heap.size, 1, none⟩ = some (.int .i64 (nfW n2 m2).1) ∧ w'.cell? ⟨w13.heap.size, 2, none⟩ = some (.slice ya yn yc) ∧ w'.cell? ⟨w14.heap.size, 0, none⟩ = some (.int .i64 n2) ∧ w'.cell? ⟨w14.heap.size, 1, none⟩ = some (.slice ca cn cc)) (exact ⟨by assumption, hK2.out _ (by assumption)⟩) ((first | (go_at_call 35; refine (hC1.out _ (by assumption)).mono ?_; rintro e wy ⟨rfl, hby⟩) | (go_at_call 51; refine (hC2.out _ (by assumption)).mono ?_; rintro e wy ⟨rfl, hby⟩) | (go_at_call 32; refine (hC3.out _ (by assumption)).mono ?_; rintro e wy ⟨rfl, hby⟩)))
           all_goals
             go_wp2_with fail
             go_ret
             exact ⟨rfl, hbZ.out.trans (Below.mono (by assumption) hbZ.out.size)⟩)
      | (have hT := (hBk.set 0 (.int .i64 n2)).set 1 (.slice ca cn cc)
         have hne : blk (.slice ca cn cc) ≠ some wi.heap.size := fun e => by have := (hc.blk_lt e).1; omega
         have hcF := (hc.other (a := ⟨wi.heap.size, 0, none⟩) hne (.int .i64 n2)).other (a := ⟨wi.heap.size, 1, none⟩) hne (.slice ca cn cc)
         have hbF := below_set2 hbj hbi.size (.int .i64 n2) (.slice ca cn cc)
         clear q0 q1 qf0 qf1 hne hBk
         generalize ((wj.setCell ⟨wi.heap.size, 0, none⟩ (.int .i64 n2)).setCell ⟨wi.heap.size, 1, none⟩ (.slice ca cn cc)) = wF at *
         have hP2 := hP.out.below hbF
         have hQ2 := hQ.out.below hbF
         have hX2 := hX0.out.below hbF
         have hY2 := hY0.out.below hbF
         have hp2 := hRp.out _ hbF
         have hq2 := hRq.out _ hbF
         have hx2 := hx0.out.below hbF
         have hy2 := hy0.out.below hbF
         have hK2 := hid (fun (w' : World) (h : Below wF.heap.size wF w') => (⟨(hP2.below h).cell 0 rfl, (hP2.below h).cell 1 rfl, (hQ2.below h).cell 0 rfl, (hQ2.below h).cell 1 rfl, (hX2.below h).cell 0 rfl, (hX2.below h).cell 1 rfl, (hX2.below h).cell 2 rfl, (hY2.below h).cell 0 rfl, (hY2.below h).cell 1 rfl, (hY2.below h).cell 2 rfl, (hT.below h).cell 0 rfl, (hT.below h).cell 1 rfl⟩ : w'.cell? ⟨w9.heap.size, 0, none⟩ = some (.int .i64 n2) ∧ w'.cell? ⟨w9.heap.size, 1, none⟩ = some (.slice pa pn pc) ∧ w'.cell? ⟨w9.heap.size + 1, 0, none⟩ = some (.int .i64 n2) ∧ w'.cell? ⟨w9.heap.size + 1, 1, none⟩ = some (.slice qa qn qc) ∧ w'.cell? ⟨w11.heap.size, 0, none⟩ = some (.int .i64 n2) ∧ w'.cell? ⟨w11.heap.size, 1, none⟩ = some (.int .i64 (nfW n2 l2).1) ∧ w'.cell? ⟨w11.heap.size, 2, none⟩ = some (.slice xa xn xc) ∧ w'.cell? ⟨w13.heap.size, 0, none⟩ = some (.int .i64 n2) ∧ w'.cell? ⟨w13.heap.size, 1, none⟩ = some (.int .i64 (nfW n2 m2).1) ∧ w'.cell? ⟨w13.heap.size, 2, none⟩ = some (.slice ya yn yc) ∧ w'.cell? ⟨wi.heap.size, 0, none⟩ = some (.int .i64 n2) ∧ w'.cell? ⟨wi.heap.size, 1, none⟩ = some (.slice ca cn cc)))
         by_cases hD : nfW n2 l2 = nfW n2 m2
         all_goals
           have hC1 := hid (fun (w' : World) (h : Below wF.heap.size wF w') => calls_from (veq_impl n2 _ l2 n2 _ m2 w' (hp2.below h) (hq2.below h)) h)
           have hC2 := hid (fun (w' : World) (h : Below wF.heap.size wF w') => calls_from (sn_spec n2 (nfW n2 l2).1 n2 (nfW n2 m2).1 _ _ (vals (nfW n2 l2).2) (vals (nfW n2 m2).2) w' (hx2.below h) (hy2.below h)) h)
           have hC3 := hid (fun (w' : World) (h : Below wF.heap.size wF w') => calls_from (vtriv_impl n2 _ (l2 ++ invW m2) w' (hcF.reads.below h)) h)
           rw [eqBr_val (by omega) (by omega) (by omega) hkl.out hkm.out] at hC1
           rw [same_val] at hC2
           rw [triv_val (by omega) (by omega) (by omega) hkl.out hkm.out] at hC3
         case' pos => rw [decide_eq_true hD] at hC1 hC2 hC3
         case' neg => rw [decide_eq_false hD] at hC1 hC2 hC3
         all_goals
           have hbG : Below wF.heap.size wF wF.drew := (Below.refl _ _).drew
           have hbZ := hid (hb.out.trans (hbF.mono hb.out.size))
           have c1 := hT.cell 1 rfl
           clear hP2 hQ2 hX2 hY2 hp2 hq2 hx2 hy2 hT hcF hP hQ hX0 hY0 hx0 hy0 hb hRp hRq hK hD hbF
           go_wp2_with fail
           go_region_held3 (fun w' => Below wF.heap.size wF w' ∧ w'.cell? ⟨w9.heap.size, 0, none⟩ = some (.int .i64 n2) ∧ w'.cell? ⟨w9.heap.size, 1, none⟩ = some (.slice pa pn pc) ∧ w'.cell? ⟨w9.heap.size + 1, 0, none⟩ = some (.int .i64 n2) ∧ w'.cell? ⟨w9.heap.size + 1, 1, none⟩ = some (.slice qa qn qc) ∧ w'.cell? ⟨w11.heap.size, 0, none⟩ = some (.int .i64 n2) ∧ w'.cell? ⟨w11.heap.size, 1, none⟩ = some (.int .i64 (nfW n2 l2).1) ∧ w'.cell? ⟨w11.heap.size, 2, none⟩ = some (.slice xa xn xc) ∧ w'.cell? ⟨w13.heap.size, 0, none⟩ = some (.int .i64 n2) ∧ w'.cell? ⟨w13.heap.size, 1, none⟩ = some (.int .i64 (nfW n2 m2).1) ∧ w'.cell? ⟨w13.heap.size, 2, none⟩ = some (.slice ya yn yc) ∧ w'.cell? ⟨wi.heap.size, 0, none⟩ = some (.int .i64 n2) ∧ w'.cell? ⟨wi.heap.size, 1, none⟩ = some (.slice ca cn cc)) (exact ⟨by assumption, hK2.out _ (by assumption)⟩) ((first | (go_at_call 35; refine (hC1.out _ (by assumption)).mono ?_; rintro e wy ⟨rfl, hby⟩) | (go_at_call 51; refine (hC2.out _ (by assumption)).mono ?_; rintro e wy ⟨rfl, hby⟩) | (go_at_call 32; refine (hC3.out _ (by assumption)).mono ?_; rintro e wy ⟨rfl, hby⟩)))
           all_goals
             go_wp2_with fail
             go_ret
             exact ⟨rfl, hbZ.out.trans (Below.mono (by assumption) hbZ.out.size)⟩)
      | (have hT := Bx.new wj #[.int .i64 n2, .slice ca cn cc] 35
         have hcF := own_alloc hc (.cells #[.int .i64 n2, .slice ca cn cc] 35)
         have hbF := below_alloc_self hbj (.cells #[.int .i64 n2, .slice ca cn cc] 35)
         try rw [alloc_set2]
         generalize wj.alloc (.cells #[.int .i64 n2, .slice ca cn cc] 35) = wF at *
         have hP2 := hP.out.below hbF
         have hQ2 := hQ.out.below hbF
         have hX2 := hX0.out.below hbF
         have hY2 := hY0.out.below hbF
         have hp2 := hRp.out _ hbF
         have hq2 := hRq.out _ hbF
         have hx2 := hx0.out.below hbF
         have hy2 := hy0.out.below hbF
         have hK2 := hid (fun (w' : World) (h : Below wF.heap.size wF w') => (⟨(hP2.below h).cell 0 rfl, (hP2.below h).cell 1 rfl, (hQ2.below h).cell 0 rfl, (hQ2.below h).cell 1 rfl, (hX2.below h).cell 0 rfl, (hX2.below h).cell 1 rfl, (hX2.below h).cell 2 rfl, (hY2.below h).cell 0 rfl, (hY2.below h).cell 1 rfl, (hY2.below h).cell 2 rfl, (hT.below h).cell 0 rfl, (hT.below h).cell 1 rfl⟩ : w'.cell? ⟨w9.heap.size, 0, none⟩ = some (.int .i64 n2) ∧ w'.cell? ⟨w9.heap.size, 1, none⟩ = some (.slice pa pn pc) ∧ w'.cell? ⟨w9.heap.size + 1, 0, none⟩ = some (.int .i64 n2) ∧ w'.cell? ⟨w9.heap.size + 1, 1, none⟩ = some (.slice qa qn qc) ∧ w'.cell? ⟨w11.heap.size, 0, none⟩ = some (.int .i64 n2) ∧ w'.cell? ⟨w11.heap.size, 1, none⟩ = some (.int .i64 (nfW n2 l2).1) ∧ w'.cell? ⟨w11.heap.size, 2, none⟩ = some (.slice xa xn xc) ∧ w'.cell? ⟨w13.heap.size, 0, none⟩ = some (.int .i64 n2) ∧ w'.cell? ⟨w13.heap.size, 1, none⟩ = some (.int .i64 (nfW n2 m2).1) ∧ w'.cell? ⟨w13.heap.size, 2, none⟩ = some (.slice ya yn yc) ∧ w'.cell? ⟨wj.heap.size, 0, none⟩ = some (.int .i64 n2) ∧ w'.cell? ⟨wj.heap.size, 1, none⟩ = some (.slice ca cn cc)))
         by_cases hD : nfW n2 l2 = nfW n2 m2
         all_goals
           have hC1 := hid (fun (w' : World) (h : Below wF.heap.size wF w') => calls_from (veq_impl n2 _ l2 n2 _ m2 w' (hp2.below h) (hq2.below h)) h)
           have hC2 := hid (fun (w' : World) (h : Below wF.heap.size wF w') => calls_from (sn_spec n2 (nfW n2 l2).1 n2 (nfW n2 m2).1 _ _ (vals (nfW n2 l2).2) (vals (nfW n2 m2).2) w' (hx2.below h) (hy2.below h)) h)
           have hC3 := hid (fun (w' : World) (h : Below wF.heap.size wF w') => calls_from (vtriv_impl n2 _ (l2 ++ invW m2) w' (hcF.reads.below h)) h)
           rw [eqBr_val (by omega) (by omega) (by omega) hkl.out hkm.out] at hC1
           rw [same_val] at hC2
           rw [triv_val (by omega) (by omega) (by omega) hkl.out hkm.out] at hC3
         case' pos => rw [decide_eq_true hD] at hC1 hC2 hC3
         case' neg => rw [decide_eq_false hD] at hC1 hC2 hC3
         all_goals
           have hbG : Below wF.heap.size wF wF.drew := (Below.refl _ _).drew
           have hbZ := hid (hb.out.trans (hbF.mono hb.out.size))
           have c1 := hT.cell 1 rfl
           clear hP2 hQ2 hX2 hY2 hp2 hq2 hx2 hy2 hT hcF hP hQ hX0 hY0 hx0 hy0 hb hRp hRq hK hD hbF
           go_wp2_with fail
           go_region_held3 (fun w' => Below wF.heap.size wF w' ∧ w'.cell? ⟨w9.heap.size, 0, none⟩ = some (.int .i64 n2) ∧ w'.cell? ⟨w9.heap.size, 1, none⟩ = some (.slice pa pn pc) ∧ w'.cell? ⟨w9.heap.size + 1, 0, none⟩ = some (.int .i64 n2) ∧ w'.cell? ⟨w9.heap.size + 1, 1, none⟩ = some (.slice qa qn qc) ∧ w'.cell? ⟨w11.heap.size, 0, none⟩ = some (.int .i64 n2) ∧ w'.cell? ⟨w11.heap.size, 1, none⟩ = some (.int .i64 (nfW n2 l2).1) ∧ w'.cell? ⟨w11.heap.size, 2, none⟩ = some (.slice xa xn xc) ∧ w'.cell? ⟨w13.heap.size, 0, none⟩ = some (.int .i64 n2) ∧ w'.cell? ⟨w13.heap.size, 1, none⟩ = some (.int .i64 (nfW n2 m2).1) ∧ w'.cell? ⟨w13.heap.size, 2, none⟩ = some (.slice ya yn yc) ∧ w'.cell? ⟨wj.heap.size, 0, none⟩ = some (.int .i64 n2) ∧ w'.cell? ⟨wj.heap.size, 1, none⟩ = some (.slice ca cn cc)) (exact ⟨by assumption, hK2.out _ (by assumption)⟩) ((first | (go_at_call 35; refine (hC1.out _ (by assumption)).mono ?_; rintro e wy ⟨rfl, hby⟩) | (go_at_call 51; refine (hC2.out _ (by assumption)).mono ?_; rintro e wy ⟨rfl, hby⟩) | (go_at_call 32; refine (hC3.out _ (by assumption)).mono ?_; rintro e wy ⟨rfl, hby⟩)))
           all_goals
             go_wp2_with fail
             go_ret
             exact ⟨rfl, hbZ.out.trans (Below.mono (by assumption) hbZ.out.size)⟩)


end Go.Proofs.Ytmeccemnmkobbaa
