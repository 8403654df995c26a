/- The program's BraidText returns what the reference's returns, for all arguments. Conditions: the package-level variables that the row lists hold what the program's text lays (the card ties them, over a pruned copy of the project: code outside it could still write them); else none. -/
import Derived.Test.YtkgdbobhppmaiaaDoorLd7
import Derived.Test.YtkgdbobhppmaiaaDoorDoor
import Derived.Test.YtkgdbobhppmaiaaDoorTie
import Derived.Test.YtkgdbobhppmaiaaDoorCards
import Derived.ProofKit
import Derived.OpenShut
import Derived.ShutString
import Derived.ChangeOld
import Derived.Lib.SmallJoins
import Derived.Lay
import Derived.SevenTiedAt
import Derived.Stop.Joined
namespace Go.Proofs.YtkgdbobhppmaiaaDoor
open Go.ChangeShapes Go.WideShapes Go.ChangeAt Go.RowKit
open Go.ChangeMaps (open_string shut_string)
set_option linter.unusedVariables false

theorem ownKnobT : ownKnob Tryd.prog.godebug = none := by kernel_rfl
theorem laidOutT : laidOutB Tryd.prog = true := by kernel_rfl

theorem reads_row {w : World} {a : Option Addr} {len cap : Nat} {zs : List Int}
    (h : (a = none ∧ len = 0 ∧ cap = 0 ∧ zs = []) ∨ ∃ x, a = some x ∧ len ≤ cap ∧ cap ≤ maxLen ∧ zs.length = cap ∧ (∀ i, i < zs.length → w.cell? (x.add i) = some (.int .i64 (zs.getD i 0)))) :
    Reads w (.slice a len cap) (ints (zs.take len)) := by
  rcases h with ⟨rfl, rfl, rfl, rfl⟩ | ⟨x, rfl, hl, hm, hz, hc⟩
  · exact ⟨⟨none, 0, rfl, by simp [ints]⟩, by simp [ints], by rintro a n c e; cases e; exact Nat.le_refl _, by simp [ints]⟩
  · have hlen : (ints (zs.take len)).length = len := by simp; omega
    refine ⟨⟨some x, cap, by rw [hlen], by simp⟩, by rw [hlen]; simp [maxLen] at hm; omega, by rintro a n c e; cases e; exact hl, ?_⟩
    intro i y hy
    have hi : i < len := by
      rcases Nat.lt_or_ge i len with h | h
      · exact h
      · rw [List.getElem?_eq_none (by rw [hlen]; exact h)] at hy; cases hy
    have h1 := hc i (by omega)
    have hi2 : i < zs.length := by omega
    simp [ints, hi, hi2] at hy
    subst hy
    show w.cell? (x.add i) = _
    rw [h1]; simp [hi2]
theorem cellsBraid : Tryd.prog.cellsOf 37 = 2 := by kernel_rfl

set_option maxRecDepth 100000 in
theorem lifted_FnExactBraidText (os : Os) (started : os.Started) (H : Type) (enc : TypeId × Value → H) :
    ReturnsInHanded {} Tryd.checked os 6 .any (fun w args => (Rows.fnExactBraidTextSpec.pre enc Tryd.prog Tryd.f6 Rows.fnExactBraidTextRow.domain false w args ∧ laidMetH Tryd.prog Rows.fnExactBraidTextRow.laid w) ∧ sizedMet enc Tryd.prog Tryd.f6 (OpenSpec.ofChange Rows.fnExactBraidTextSpec) false w args) (Rows.fnExactBraidTextSpec.post enc Tryd.prog Tryd.f6 false true false false) := by
  refine handed_listed (C := Tryd.checked) (X := fun w _ => laidMetH Tryd.prog Rows.fnExactBraidTextRow.laid w) (fun _ _ _ hh h => h.of_heap hh) ownKnobT started (by kernel_rfl) Tryd.func6
    (ChangeSpec.witness_shaped (enc := enc) (C := Tryd.checked) (os := os) (X := fun w _ => laidMetH Tryd.prog Rows.fnExactBraidTextRow.laid w) false (World.laidAll Tryd.prog os Rows.fnExactBraidTextRow.laid) #[.agg #[.int .i64 0, .slice none 0 0]] 8 (World.laidAll_os _ _ _)
      (World.shaped_of_ZipB (by kernel_rfl) (by kernel_rfl)) (by kernel_rfl) (by kernel_rfl) (by kernel_rfl)
      (by rw [MakeChecks.laidMetH_plain _ _ _ (by kernel_rfl)]; exact laidMet_laidAll _ (by kernel_rfl) (by kernel_rfl))) ?_
  intro W base args ds gs before hval0 hW hL0 hsh
  have hL := plain_listed _ W (by kernel_rfl) hL0
  have hval : ∀ (j : Nat) t v, Tryd.f6.params[j]? = some t → args[j]? = some v → Value.okWide Tryd.prog W .any base t v := hval0
  have hW' := hW
  obtain ⟨p, q, hA0, hV, rfl, hfz, hnd⟩ := hW
  have hA : DataW.TrodAll enc Tryd.prog W 0 (fun _ => true) true Tryd.f6.params.toList args.toList ds p := hA0
  rw [Tryd.params6] at hA hval
  obtain ⟨v0, vs0, d0, ds0, p0, q0, hargs, rfl, rfl, h0, r0⟩ := trodAll_cons hA
  obtain ⟨rfl, rfl, rfl⟩ := trodAll_nil r0
  obtain rfl : args = #[v0] := by cases args; simp_all
  obtain ⟨rfl, rfl⟩ := trodVars_none hV
  have k0 := h0
  have lt0 : ∀ x ∈ p0, x.block < W.heap.size := by obtain ⟨m, hm⟩ := k0; exact DataW.trod_lt m _ _ _ hm
  obtain ⟨c0, c1, y0, y1, m, rfl, rfl, rfl, hy0, hy1⟩ := Joins.open_agg2 Tryd.underlying37 (by kernel_rfl) cellsBraid (hval 0 37 v0 rfl rfl) h0
  obtain ⟨n0, e0, rfl, wn0⟩ := DataW.trod_int Tryd.underlying2 hy0
  simp at e0; subst e0
  obtain ⟨b0, z0, hb0, w0⟩ : ∃ b zs, [c1] = [b] ∧ Reads W b (ints zs) := by
    rcases open_ints Tryd.underlying35 Tryd.underlying2 (by kernel_rfl) hy1 with ⟨hcs, _⟩ | ⟨x, l, c, zs, hcs, _, hl, hm, hz, _, hcell, hwz⟩
    · exact ⟨_, _, hcs, reads_row (zs := []) (.inl ⟨rfl, rfl, rfl, rfl⟩)⟩
    · exact ⟨_, _, hcs, reads_row (.inr ⟨_, rfl, hl, hm, by simpa using hz, hcell⟩)⟩
  obtain rfl : c1 = b0 := by simpa using hb0
  clear hA0 hval0
  have hT : Tb W := tb_of (laid_next (laid_next hL))
  refine (walk_FnExactBraidText _ _ _ W w0 hT).mono fun e W' ⟨he, bel⟩ => ?_
  subst he
  exact ⟨_, rfl, _, _, _, [], _, [], hW', trodAll_mk1 (shut_bool Tryd.underlying4 _), (trodAll_cons_mk (Below.trod laidOutT (by kernel_rfl) (of_decide_eq_true (by kernel_rfl)) k0 bel lt0) trodAll_mk0), rfl, bel.frame _, fun h => by cases h⟩

/-- FnExactBraidText: for every input the law returns true. -/
theorem holds_FnExactBraidText : Rows.FnExactBraidTextSaid :=
  OpenClaim.holds_of_wide 6 Tryd.f6 rfl rfl rfl rfl rfl rfl rfl ⟨rfl, rfl, rfl, rfl, rfl⟩ rfl rfl rfl rfl rfl (by kernel_rfl) Tryd.func6 (by kernel_rfl)
    (of_decide_eq_true (by kernel_rfl)) (by unfold Func.isWrapper; first | (rw [if_pos (by decide +kernel)]; kernel_rfl) | (rw [if_neg (by decide +kernel)]; exact ⟨rfl, rfl⟩))
    (fun os started H enc _ => lifted_FnExactBraidText os started H enc)

/-- FnExactBraidText: the tied card. -/
theorem card_FnExactBraidText : Rows.FnExactBraidTextCardSaid :=
  Claim7.holds_tied_plain_at .later [] [.data, .data, .data] true Rows.fnExactBraidTextCard.stood.harness true
    holds_FnExactBraidText (fun _ h => by cases h) (by kernel_rfl) (fun _ h => by cases h) fnExactBraidText_row_tie rfl ⟨rfl, rfl⟩ (by kernel_rfl) rfl
    (fun f fn hf hfn => by
      obtain rfl : f = 6 := Option.some.inj ((show Tryd.prog.funcNamed Rows.fnExactBraidTextRow.func = some 6 by kernel_rfl).symm.trans hf) |>.symm
      obtain rfl : fn = Tryd.f6 := (Option.some.inj (Tryd.func6.symm.trans hfn)).symm
      exact ⟨by kernel_rfl, fun j t ht => by
        rw [Tryd.params6] at ht
        have h3 : t = 37 := by
          rcases j with _ | j
          · simpa using ht.symm
          · simp at ht
        subst h3
        exact (show Tryd.prog.wantsStandIn 37 = false by kernel_rfl)⟩)
    (by kernel_rfl)
#print axioms card_FnExactBraidText

end Go.Proofs.YtkgdbobhppmaiaaDoor
