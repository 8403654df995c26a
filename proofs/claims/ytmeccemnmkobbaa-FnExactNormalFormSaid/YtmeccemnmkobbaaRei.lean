/- Contracts: a normal form is multiplied by a permutation, in the program. -/
import Derived.Test.YtmeccemnmkobbaaReh
import Derived.Test.YtmeccemnmkobbaaDel
namespace Go.Proofs.Ytmeccemnmkobbaa
open Go.RowKit
open Pm

/-- a call of a Go function with one argument, as one step of a region that draws -/
theorem step_call {P : Program} {w : World} {ops : Array Oper} {o : Oper} {a : Act} {K : Act → World → Prop} {Q : Exit → Act → World → Prop} {E : Prop} {f : FuncId} {u : Value} {T : TypeId} {R : Ending → World → Prop}
    (hc : Calls P f #[u] w R) (hf : ∀ w, (callFunc f #[u]).run P w = .ok (.enter f #[u]) w) (hg : o.guard = none) (x : Operand)
    (ho : o.op = .call { callee := .value (.func f), args := #[x], argTypes := #[T] }) (hx : a.eval x = u)
    (hK : ∀ e w', R e w' → ∃ v, e = .returned v ∧ K (a.put o.dst v) w') : if Region.wanted o (yielded ops a.tmps) = true then Oper.wp P o a w K Q else E := by
  have hw : Region.wanted o (yielded ops a.tmps) = true := by simp [Region.wanted, hg]
  rw [if_pos hw]
  unfold Oper.wp
  have hr : (execOp a.eval o).run P w = .ok (.enter f #[u]) w := by
    have hx' : Act.eval a x = u := hx
    have h0 : a.eval (.func f) = .func (.func f) #[] #[] := rfl
    simp [execOp, ho, resolve, invoke, hx', h0, Deferred.ofValue, hf]
  rw [hr]
  refine hc.mono ?_
  intro e w' hr
  obtain ⟨v, rfl, hk⟩ := hK e w' hr
  exact hk

theorem far_moves {n : Nat} (k : Nat) (A B : List (Pm n)) (p q p' q' : Pm n) (t : Int) (h1 : ni p' = ni p + t) (h2 : ni q' = ni q - t) : far k (A ++ p' :: q' :: B) = far k (A ++ p :: q :: B) - t := by
  induction A generalizing k with
  | nil =>
    simp only [List.nil_append, far]
    rw [h1, h2, Int.mul_add, Int.mul_sub]
    have : ((k + 1 : Nat) : Int) = (k : Int) + 1 := by omega
    rw [this, Int.add_mul, Int.add_mul, Int.one_mul, Int.one_mul]; omega
  | cons x A ih => simp only [List.cons_append, far]; rw [ih (k + 1)]; omega
theorem far_at {n : Nat} {L : List (Pm n)} {i : Nat} (h : i + 1 < L.length) {p q : Pm n} {t : Int} (h1 : ni p = ni (pat L i) + t) (h2 : ni q = ni (pat L (i + 1)) - t) : far 0 (mv L i p q) = far 0 L - t := by
  obtain ⟨A, B, e1, e2⟩ := two_at h
  rw [e2]
  generalize pat L i = p0 at *
  generalize pat L (i + 1) = q0 at *
  rw [e1]
  exact far_moves 0 A B p0 q0 p q t h1 h2
theorem eqv_at {n : Nat} {L : List (Pm n)} {i : Nat} (h : i + 1 < L.length) {p q : Pm n} (hE : (gar n).Eqv [pat L i, pat L (i + 1)] [p, q]) : (gar n).Eqv L (mv L i p q) := by
  obtain ⟨A, B, e1, e2⟩ := two_at h
  rw [e2]
  generalize pat L i = p0 at *
  generalize pat L (i + 1) = q0 at *
  rw [e1]
  have h3 := (gar n).eqv_app ((gar n).eqv_refl A) ((gar n).eqv_app hE ((gar n).eqv_refl B))
  simpa using h3
theorem mv_same {n : Nat} {L : List (Pm n)} {i : Nat} (h : i + 1 < L.length) : mv L i (pat L i) (pat L (i + 1)) = L := by
  obtain ⟨A, B, e1, e2⟩ := two_at h
  rw [e2]; exact e1.symm

set_option maxRecDepth 100000 in
set_option maxHeartbeats 8000000 in
theorem times_impl {n : Nat} (g : Nat) (pw : Int) (o v : Value) (us : List Value) (L : List (Pm n)) (p : Pm n) (w : World) (B : Nat) (hB : B ≤ w.heap.size) (hgB : g < B) (hX : Bx w g [.int .i64 (n : Int), .int .i64 pw, o]) (h : NB w B o us L) (hv : Reads w v (ints p.1)) (hl : L.length ≤ 1048575) (hp0 : -1048576 ≤ pw) (hp1 : pw ≤ 1048576) (hn : n ≤ 12) :
    Calls Try.prog 123 #[.pointer (some ⟨g, 0, none⟩), v] w fun e w' => ∃ o' us', e = .returned (.tuple #[]) ∧ NB w' B o' us' ((gar n).NF (pw, L ++ [p])).2 ∧ Bx w' g [.int .i64 (n : Int), .int .i64 ((gar n).NF (pw, L ++ [p])).1, o'] ∧ Below g w w' := by
  have hC := hid (fun (w' : World) (hw : Below w.heap.size w w') => clone_run v p.1 w' (hv.below hw) (by rw [p.len]; omega))
  have A2d : w.drew.cell? ⟨g, 2, none⟩ = some o := hX.drew.cell 2 rfl
  have hX' := hid hX
  have hN' := hid h
  have hdz : w.drew.heap.size = w.heap.size := rfl
  have hbD := hid ((Below.refl w.heap.size w).drew)
  clear hX h hv
  go_enter Try.func123, Try.ntmps123
  go_wp2_with fail
  go_region_law ((first | (refine step_call (hC.out _ hbD.out) (fun _ => by kernel_rfl) rfl (.tmp 11) rfl (by simp [Act.eval, Act.put]) ?_; rintro e w3 ⟨x, rfl, hx, hs3⟩; refine ⟨_, rfl, ?_⟩; obtain ⟨xa, xn, xc, rfl⟩ := own_lit hx; have hbS : Below w.heap.size w w3 := hbD.out.trans hs3; obtain ⟨v', w4, hrun, hN4, hb4⟩ := hN'.out.app hbS hB hx (by omega); have hX3 := hX'.out.below hbS; have hX4 := hX3.belowB hb4 hgB; have c3 := hX3.cell 2 rfl; have c3a := (hX3.alloc (.cells #[.slice xa xn xc] 32)).cell 2 rfl; have c4 := hX4.cell 2 rfl; have f4 := hX4.frozen 2; obtain ⟨va, vn, vc, rfl⟩ := own_lit hN4.own) | (refine step_app hrun rfl (.tmp 10) (.tmp 13) rfl (by simp [Act.eval]) (by simp [Act.eval]) ?_)))
  all_goals
    have hXS := hid (hX4.set 2 (.slice va vn vc))
    have hNS := hid (hN4.set_block hgB 2 (.slice va vn vc))
    have hbW := hid (((hbS.mono (show g ≤ w.heap.size by omega)).trans (hb4.mono (Nat.le_of_lt hgB))).setCell (p := ⟨g, 2, none⟩) (Nat.le_refl g) (.slice va vn vc))
    have hL1 : (L ++ [p]).length = L.length + 1 := by simp
    generalize hWS : w4.setCell ⟨g, 2, none⟩ (.slice va vn vc) = wS at *
    generalize hgo : Value.slice va vn vc = o1 at *
    generalize us ++ [Value.slice xa xn xc] = us1 at *
    generalize hLe : L ++ [p] = L1 at *
    have hLe' := hid hLe
    clear hLe
    replace hXS : Hid (Bx wS g [.int .i64 (n : Int), .int .i64 pw, o1]) := hXS
    clear hWS hgo hN4 hX4 hX3 hb4 hbS hx hs3 c3 c3a c4 f4 A2d hC hX' hN' hbD
    go_wp2_with fail
    go_loopg [4, 5] (far 0 L1 + 1).toNat (fun gk b _ wr => ∃ M, NB wr B o1 us1 M ∧ Bx wr g [.int .i64 (n : Int), .int .i64 pw, o1] ∧ M.length = L1.length ∧ (gar n).Eqv L1 M ∧ Below g w wr ∧ ((b = .bool true ∧ (far 0 M + 1).toNat ≤ gk) ∨ (b = .bool false ∧ ∀ t, t + 1 < L1.length → exl M t = 0)))
    case atStart => exact ⟨L1, hNS.out, hXS.out, rfl, (gar n).eqv_refl _, hbW.out, .inl ⟨rfl, Nat.le_refl _⟩⟩
    case round =>
      clear hNS hXS hbW
      obtain ⟨M0, hN, hX, hMl, hE, hb, hbb⟩ := hrel
      have hBw : B ≤ wr.heap.size := by have := hb.size; omega
      rcases hbb with ⟨rfl, hgk⟩ | ⟨rfl, hfin⟩
      case inr =>
        have hwt := hid (wt_of_all (L := M0) fun i hi => hfin i (by omega))
        replace hE := hid hE
        replace hN := hid hN
        replace hX := hid hX
        replace hb := hid hb
        clear hfin
        go_wp2_with fail
        refine (tidy_impl g pw o1 us1 M0 wr B hBw hgB hX.out hN.out hwt.out (by omega) hp0 hp1 hn).mono ?_
        rintro e w5 ⟨o', us', rfl, hN5, hX5, hb5⟩
        replace hN5 := hid hN5
        replace hX5 := hid hX5
        replace hb5 := hid hb5
        go_wp2_with fail
        exact bodyPost_end (v := .tuple #[]) (by simp [results, Try.results123, go_sem]) rfl ⟨o', us', rfl, by rw [hLe'.out, (gar n).NF_eqv hE.out]; exact hN5.out, by rw [hLe'.out, (gar n).NF_eqv hE.out]; exact hX5.out, hb.out.trans hb5.out⟩
      case inl =>
      replace hE := hid hE
      have hln : ∀ w', Sem.run Try.prog (Builtin.len_ #[22] 3 #[o1]) w' = .ok (.int .i64 ((L.length : Int) + 1)) w' := fun w' => by
        have := hN.own.reads.len (P := Try.prog) 22 3 ⟨_, sliceII⟩ w'
        rw [hN.len, hMl, hL1] at this; simpa using this
      have A2 := hX.cell 2 rfl
      have hN' := hid hN
      have hX' := hid hX
      have hb' := hid hb
      clear hN hX hb hBw
      go_wp2_with fail
      go_loopw [4, 5] (fun b i wr => ∃ (k : Int) (M : List (Pm n)), -1 ≤ k ∧ k < L.length ∧ i = .int .i64 k ∧ NB wr B o1 us1 M ∧ Bx wr g [.int .i64 (n : Int), .int .i64 pw, o1] ∧ M.length = L1.length ∧ (gar n).Eqv L1 M ∧ Below g w wr ∧ ((b = .bool false ∧ M = M0 ∧ ∀ t : Nat, k < t → t + 1 < L1.length → exl M t = 0) ∨ (b = .bool true ∧ far 0 M < far 0 M0))) (fun _ i _ => (intOf i + 1).toNat)
      case atStart => exact ⟨(L.length : Int) - 1, M0, by omega, by omega, by go_num, hN'.out, hX'.out, hMl, hE.out, hb'.out, .inl ⟨rfl, rfl, fun t h1 h2 => by omega⟩⟩
      case round =>
        clear hE hN' hX' hb' hln A2
        obtain ⟨k, M, hk0, hk1, rfl, hN, hX, hM2, hE, hb, hbb⟩ := hrel
        have hBw : B ≤ wr.heap.size := by have := hb.size; omega
        replace hE := hid hE
        replace hbb := hid hbb
        by_cases hk : 0 ≤ k
        case neg =>
          replace hN := hid hN
          replace hX := hid hX
          replace hb := hid hb
          go_wp2_with fail
          rcases hbb.out with ⟨rfl, rfl, hz⟩ | ⟨rfl, hlt2⟩
          · go_roundg 0
            case rel => exact ⟨M, hN.out, hX.out, hM2, hE.out, hb.out, .inr ⟨rfl, fun t ht => hz t (by omega) ht⟩⟩
            case measure => have := far_nonneg 0 M; omega
          · go_roundg (far 0 M + 1).toNat
            case rel => exact ⟨M, hN.out, hX.out, hM2, hE.out, hb.out, .inl ⟨rfl, Nat.le_refl _⟩⟩
            case measure => have := far_nonneg 0 M; omega
        case pos =>
        obtain ⟨j, rfl⟩ := Int.eq_ofNat_of_zero_le hk
        have hi := hN.own.reads.idx 22 sliceII sizeSI .i64 j (by omega) (by rw [hN.len]; omega)
        have hi2 := hN.own.reads.idx 22 sliceII sizeSI .i64 ((j : Int) + 1) (by omega) (by rw [hN.len]; omega)
        rw [show ((j : Int) + 1).toNat = j + 1 by omega] at hi2
        have hw1 := Go.IntWalk.i64_in ((j : Int) + 1) (by omega)
        simp only [Int.toNat_natCast] at hi
        have hK := hid (fun (w' : World) (hw : Below wr.heap.size wr w') => (⟨(hX.below hw).cell 2 rfl, (hN.own.reads.below hw).cell j _ (vat_of (by rw [hN.len]; omega)), (hN.own.reads.below hw).cell (j + 1) _ (vat_of (by rw [hN.len]; omega))⟩ : w'.cell? ⟨g, 2, none⟩ = some o1 ∧ w'.cell? (adr o1 j) = some (vat us1 j) ∧ w'.cell? (adr o1 (j + 1)) = some (vat us1 (j + 1))))
        have hND := hid (hN.below (Below.refl _ wr).drew)
        have hXD := hid (hX.below (Below.refl _ wr).drew)
        have hWg := hid (weigh_impl (vat us1 j) (vat us1 (j + 1)) (pat M j) (pat M (j + 1)) wr.drew B hBw (hND.out.row j (by omega)) (hND.out.row (j + 1) (by omega)) (hND.out.apart j (j + 1) (by omega) (by omega) (by omega)) hn)
        have hbD := hid (hb.trans ((Below.refl _ wr).drew.mono (show g ≤ wr.heap.size by omega)))
        have hlen2 := hid hN.len
        clear hN hX hb
        go_wp2_with fail
        go_region_held3 (fun w' => w'.cell? ⟨g, 2, none⟩ = some o1 ∧ w'.cell? (adr o1 j) = some (vat us1 j) ∧ w'.cell? (adr o1 (j + 1)) = some (vat us1 (j + 1))) (first | exact hK.out _ (Below.refl _ _).drew | exact hS3.out) ((first | (go_at_call 136; refine hWg.out.mono ?_; rintro e w3 ⟨p', q', t, rfl, hp', hq', hg3, hE3, hn1, hn2, h0, hx3⟩; obtain ⟨hN3, hb3⟩ := hND.out.gr2 hBw (i := j) (by omega) hg3 hp' hq'; have hX3 := hXD.out.belowB hb3 hgB; have hS3 := hid (⟨hX3.cell 2 rfl, hN3.own.reads.cell j _ (vat_of (by rw [hlen2.out]; omega)), hN3.own.reads.cell (j + 1) _ (vat_of (by rw [hlen2.out]; omega))⟩ : w3.cell? ⟨g, 2, none⟩ = some o1 ∧ w3.cell? (adr o1 j) = some (vat us1 j) ∧ w3.cell? (adr o1 (j + 1)) = some (vat us1 (j + 1))))))
        all_goals
          have hEM := hid (eqv_at (L := M) (i := j) (by omega) hE3)
          have hfr := hid (far_at (L := M) (i := j) (by omega) hn1 hn2)
          have hb4 := hid (hbD.out.trans (hb3.mono (Nat.le_of_lt hgB)))
          have hN4 := hid hN3
          have hX4 := hid hX3
          have h0' := hid h0
          have hx' := hid hx3
          clear hK hND hXD hWg hbD hS3 hp' hq' hg3 hE3 hn1 hn2 h0 hx3 hN3 hX3 hb3 hi hi2 hlen2
          by_cases ht : 0 < t
          · rw [decide_eq_true ht]
            go_wp2_with fail
            go_roundw
            case rel => exact ⟨(j : Int) - 1, mv M j p' q', by omega, by omega, by go_num, hN4.out, hX4.out, by rw [length_mv]; exact hM2, (gar n).eqv_trans hE.out hEM.out, hb4.out, .inr ⟨rfl, by rcases hbb.out with ⟨-, e2, -⟩ | ⟨-, e2⟩ <;> have := hfr.out <;> first | (rw [← e2]; omega) | omega⟩⟩
            case measure => simp [intOf] <;> omega
          · obtain rfl : t = 0 := by omega
            obtain ⟨rfl, rfl⟩ := h0'.out rfl
            rw [mv_same (by omega)] at hN4
            rw [decide_eq_false ht]
            go_wp2_with fail
            go_roundw
            case rel =>
              refine ⟨(j : Int) - 1, M, by omega, by omega, by go_num, hN4.out, hX4.out, hM2, hE.out, hb4.out, ?_⟩
              rcases hbb.out with ⟨e1, e2, hz⟩ | ⟨e1, e2⟩
              · refine .inl ⟨e1, e2, fun t h1 h2 => ?_⟩
                by_cases e : t = j
                · rw [e]; exact hx'.out
                · exact hz t (by omega) h2
              · exact .inr ⟨e1, e2⟩
            case measure => simp [intOf] <;> omega


end Go.Proofs.Ytmeccemnmkobbaa
