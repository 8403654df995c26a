/- A braid joined with its inverse is reduced to nothing, permutations and sums of signs of joined braids are those of their parts, and texts are read back, for all bytes from which the braids are drawn. Conditions: the package-level variables that the row lists hold what the program's text lays (the card ties them, over a pruned copy of the project: code outside it could still write them); else none. -/
import Derived.Test.YtkgdbobhppmaiaaDoorLd9
import Derived.Test.YtkgdbobhppmaiaaDoorDoor
import Derived.Test.YtkgdbobhppmaiaaDoorTie
import Derived.Test.YtkgdbobhppmaiaaDoorCards
import Derived.ProofKit
import Derived.OpenShut
import Derived.ShutString
import Derived.ChangeOld
import Derived.Lay
import Derived.SevenTiedAt
import Derived.Stop.Joined
namespace Go.Proofs.YtkgdbobhppmaiaaDoor
open Go.ChangeShapes Go.WideShapes Go.ChangeAt Go.RowKit
open Go.ChangeMaps (open_string shut_string)
set_option linter.unusedVariables false

theorem ownKnobT : ownKnob Tryd.prog.godebug = none := by kernel_rfl
theorem laidOutT : laidOutB Tryd.prog = true := by kernel_rfl

theorem reads_rowB {w : World} {a : Option Addr} {len cap : Nat} {zs : List Int}
    (h : (a = none ∧ len = 0 ∧ cap = 0 ∧ zs = []) ∨ ∃ x, a = some x ∧ len ≤ cap ∧ cap ≤ maxLen ∧ zs.length = cap ∧ (∀ i, i < zs.length → w.cell? (x.add i) = some (.int .u8 (zs.getD i 0)))) :
    Reads w (.slice a len cap) (bytes (zs.take len)) := by
  rcases h with ⟨rfl, rfl, rfl, rfl⟩ | ⟨x, rfl, hl, hm, hz, hc⟩
  · exact ⟨⟨none, 0, rfl, by simp [bytes]⟩, by simp [bytes], by rintro a n c e; cases e; exact Nat.le_refl _, by simp [bytes]⟩
  · have hlen : (bytes (zs.take len)).length = len := by simp; omega
    refine ⟨⟨some x, cap, by rw [hlen], by simp⟩, by rw [hlen]; simp [maxLen] at hm; omega, by rintro a n c e; cases e; exact hl, ?_⟩
    intro i y hy
    have hi : i < len := by
      rcases Nat.lt_or_ge i len with h | h
      · exact h
      · rw [List.getElem?_eq_none (by rw [hlen]; exact h)] at hy; cases hy
    have h1 := hc i (by omega)
    have hi2 : i < zs.length := by omega
    simp [bytes, hi, hi2] at hy
    subst hy
    show w.cell? (x.add i) = _
    rw [h1]; simp [hi2]

theorem byte_wf {n : Int} (h : (Lit.int .u8 n).wf = true) : 0 ≤ n ∧ n ≤ 255 := by
  simp only [Lit.wf, IntKind.min, IntKind.max, IntKind.signed, IntKind.bits, Bool.and_eq_true] at h
  simp at h; omega
theorem bytes_rng {zs : List Int} {n : Nat} (h : ∀ x ∈ zs, (Lit.int .u8 x).wf = true) : ∀ i, i < (zs.take n).length → 0 ≤ nth (zs.take n) i ∧ nth (zs.take n) i ≤ 255 := fun i hi =>
  byte_wf (h _ (List.mem_of_mem_take (nth_in hi)))

set_option maxRecDepth 100000 in
theorem lifted_FnBraids (os : Os) (started : os.Started) (H : Type) (enc : TypeId × Value → H) :
    ReturnsInHanded {} Tryd.checked os 11 .any (fun w args => (Rows.fnBraidsSpec.pre enc Tryd.prog Tryd.f11 Rows.fnBraidsRow.domain false w args ∧ laidMetH Tryd.prog Rows.fnBraidsRow.laid w) ∧ sizedMet enc Tryd.prog Tryd.f11 (OpenSpec.ofChange Rows.fnBraidsSpec) false w args) (Rows.fnBraidsSpec.post enc Tryd.prog Tryd.f11 false true false false) := by
  refine handed_listed (C := Tryd.checked) (X := fun w _ => laidMetH Tryd.prog Rows.fnBraidsRow.laid w) (fun _ _ _ hh h => h.of_heap hh) ownKnobT started (by kernel_rfl) Tryd.func11
    (ChangeSpec.witness_shaped (enc := enc) (C := Tryd.checked) (os := os) (X := fun w _ => laidMetH Tryd.prog Rows.fnBraidsRow.laid w) false (World.laidAll Tryd.prog os Rows.fnBraidsRow.laid) #[.slice none 0 0] 8 (World.laidAll_os _ _ _)
      (World.shaped_of_ZipB (by kernel_rfl) (by kernel_rfl)) (by kernel_rfl) (by kernel_rfl) (by kernel_rfl)
      (by rw [MakeChecks.laidMetH_plain _ _ _ (by kernel_rfl)]; exact laidMet_laidAll _ (by kernel_rfl) (by kernel_rfl))) ?_
  intro W base args ds gs before hval0 hW hL0 hsh
  have hL := plain_listed _ W (by kernel_rfl) hL0
  have hval : ∀ (j : Nat) t v, Tryd.f11.params[j]? = some t → args[j]? = some v → Value.okWide Tryd.prog W .any base t v := hval0
  have hW' := hW
  obtain ⟨p, q, hA0, hV, rfl, hfz, hnd⟩ := hW
  have hA : DataW.TrodAll enc Tryd.prog W 0 (fun _ => true) true Tryd.f11.params.toList args.toList ds p := hA0
  rw [Tryd.params11] at hA hval
  obtain ⟨v0, vs0, d0, ds0, p0, q0, hargs, rfl, rfl, h0, r0⟩ := trodAll_cons hA
  obtain ⟨rfl, rfl, rfl⟩ := trodAll_nil r0
  obtain rfl : args = #[v0] := by cases args; simp_all
  obtain ⟨rfl, rfl⟩ := trodVars_none hV
  obtain ⟨a0, len0, cap0, rfl⟩ := okWide_slice Tryd.underlying46 (hval 0 46 v0 rfl rfl)
  have k0 := h0
  have lt0 : ∀ x ∈ p0, x.block < W.heap.size := by obtain ⟨m, hm⟩ := k0; exact DataW.trod_lt m _ _ _ hm
  obtain ⟨z0, w0⟩ : ∃ zs, Reads W (.slice a0 len0 cap0) (bytes zs) ∧ ∀ i, i < zs.length → 0 ≤ nth zs i ∧ nth zs i ≤ 255 := by
    obtain ⟨fuel, hf⟩ := h0
    rcases open_ints Tryd.underlying46 Tryd.underlying5 (by kernel_rfl) hf with ⟨hcs, _⟩ | ⟨x, l, c, zs, hcs, _, hl, hm, hz, _, hcell, hwz⟩
    · simp [Value.cells] at hcs
      obtain ⟨rfl, rfl, rfl⟩ := hcs
      exact ⟨_, reads_rowB (zs := []) (.inl ⟨rfl, rfl, rfl, rfl⟩), fun i hi => absurd hi (by simp)⟩
    · simp [Value.cells] at hcs
      obtain ⟨rfl, rfl, rfl⟩ := hcs
      exact ⟨_, reads_rowB (.inr ⟨_, rfl, hl, hm, by simpa using hz, hcell⟩), bytes_rng hwz⟩
  clear hA0 hval0
  have hT : Tb W := tb_of (laid_next (laid_next hL))
  have hE : Er W := ⟨syn_of (laid_next (laid_next (laid_next (laid_next (laid_next hL))))), rng_of (laid_next (laid_next (laid_next (laid_next hL))))⟩
  have hM := mx_of hsh
  refine (walk_FnBraids _ _ W w0.1 w0.2 hT hE hM).mono fun e W' ⟨he, bel⟩ => ?_
  subst he
  exact ⟨_, rfl, _, _, _, [], _, [], hW', trodAll_mk1 (shut_bool Tryd.underlying4 _), (trodAll_cons_mk (Below.trod laidOutT (by kernel_rfl) (of_decide_eq_true (by kernel_rfl)) k0 bel lt0) trodAll_mk0), rfl, bel.frame _, fun h => by cases h⟩

/-- FnBraids: for every input the law returns true. -/
theorem holds_FnBraids : Rows.FnBraidsSaid :=
  OpenClaim.holds_of_wide 11 Tryd.f11 rfl rfl rfl rfl rfl rfl rfl ⟨rfl, rfl, rfl, rfl, rfl⟩ rfl rfl rfl rfl rfl (by kernel_rfl) Tryd.func11 (by kernel_rfl)
    (of_decide_eq_true (by kernel_rfl)) (by unfold Func.isWrapper; first | (rw [if_pos (by decide +kernel)]; kernel_rfl) | (rw [if_neg (by decide +kernel)]; exact ⟨rfl, rfl⟩))
    (fun os started H enc _ => lifted_FnBraids os started H enc)

/-- FnBraids: the tied card. -/
theorem card_FnBraids : Rows.FnBraidsCardSaid :=
  Claim7.holds_tied_plain_at .later [] [.data, .data, .data, .data, .sentinel, .sentinel, .pinned] true Rows.fnBraidsCard.stood.harness true
    holds_FnBraids (fun _ h => by cases h) (by kernel_rfl) (fun _ h => by cases h) fnBraids_row_tie rfl ⟨rfl, rfl⟩ (by kernel_rfl) rfl
    (fun f fn hf hfn => by
      obtain rfl : f = 11 := Option.some.inj ((show Tryd.prog.funcNamed Rows.fnBraidsRow.func = some 11 by kernel_rfl).symm.trans hf) |>.symm
      obtain rfl : fn = Tryd.f11 := (Option.some.inj (Tryd.func11.symm.trans hfn)).symm
      exact ⟨by kernel_rfl, fun j t ht => by
        rw [Tryd.params11] at ht
        have h3 : t = 46 := by
          rcases j with _ | j
          · simpa using ht.symm
          · simp at ht
        subst h3
        exact (show Tryd.prog.wantsStandIn 46 = false by kernel_rfl)⟩)
    (by kernel_rfl)
#print axioms card_FnBraids

end Go.Proofs.YtkgdbobhppmaiaaDoor
