/- The program's JoinNormals returns what the reference's returns, for all arguments, leaves its arguments alone and returns memory of its own. Conditions: none; the statement is for every input. -/
import Derived.Test.YtmeccemnmkobbaaLc9
import Derived.ProofKit
import Derived.OpenShut
import Derived.ShutString
import Derived.ChangeOld
import Derived.Lib.SmallJoins
import Derived.Deep.Slices
namespace Go.Proofs.Ytmeccemnmkobbaa
open Go.ChangeShapes Go.WideShapes Go.ChangeAt Go.RowKit
open Go.ChangeMaps (open_string shut_string)
set_option linter.unusedVariables false

theorem ownKnobT : ownKnob Try.prog.godebug = none := by kernel_rfl
theorem laidOutT : laidOutB Try.prog = true := by kernel_rfl

theorem reads_row {w : World} {a : Option Addr} {len cap : Nat} {zs : List Int}
    (h : (a = none ∧ len = 0 ∧ cap = 0 ∧ zs = []) ∨ ∃ x, a = some x ∧ len ≤ cap ∧ cap ≤ maxLen ∧ zs.length = cap ∧ (∀ i, i < zs.length → w.cell? (x.add i) = some (.int .i64 (zs.getD i 0)))) :
    Reads w (.slice a len cap) (ints (zs.take len)) := by
  rcases h with ⟨rfl, rfl, rfl, rfl⟩ | ⟨x, rfl, hl, hm, hz, hc⟩
  · exact ⟨⟨none, 0, rfl, by simp [ints]⟩, by simp [ints], by rintro a n c e; cases e; exact Nat.le_refl _, by simp [ints]⟩
  · have hlen : (ints (zs.take len)).length = len := by simp; omega
    refine ⟨⟨some x, cap, by rw [hlen], by simp⟩, by rw [hlen]; simp [maxLen] at hm; omega, by rintro a n c e; cases e; exact hl, ?_⟩
    intro i y hy
    have hi : i < len := by
      rcases Nat.lt_or_ge i len with h | h
      · exact h
      · rw [List.getElem?_eq_none (by rw [hlen]; exact h)] at hy; cases hy
    have h1 := hc i (by omega)
    have hi2 : i < zs.length := by omega
    simp [ints, hi, hi2] at hy
    subst hy
    show w.cell? (x.add i) = _
    rw [h1]; simp [hi2]

theorem open_rows {H : Type} {enc : TypeId × Value → H} {w : World} {n : Nat} {cs : List Value} {x : DataW H × List MemPlace} (h : DataW.trod enc Try.prog w 0 (fun _ => true) true n 22 cs = some x) : ∃ b ls, cs = [b] ∧ ReadsII w b ls := by
  rcases Deep.open_slice1 Try.underlying22 (by kernel_rfl) h with ⟨rfl, _⟩ | ⟨a, len, cap, m, n', V, D, Pl, rfl, _, hl, hm, hmm, _, hx⟩
  · exact ⟨_, [], rfl, [], reads_row (zs := []) (.inl ⟨rfl, rfl, rfl, rfl⟩), ⟨rfl, by simp⟩⟩
  · simp only [if_true] at hmm
    have hrow : ∀ i, ∃ l, i < len → Reads w (V i) (ints l) := by
      intro i
      by_cases hi : i < len
      · obtain ⟨_, h2⟩ := hx i (by omega)
        rcases open_ints Try.underlying32 Try.underlying2 (by kernel_rfl) h2 with ⟨hcs, _⟩ | ⟨x, l, c, zs, hcs, _, hl, hm, hz, _, hcell, hwz⟩
        · have e : V i = .slice none 0 0 := by simpa using hcs
          rw [e]
          exact ⟨_, fun _ => reads_row (zs := []) (.inl ⟨rfl, rfl, rfl, rfl⟩)⟩
        · have e : V i = .slice (some x) l c := by simpa using hcs
          rw [e]
          exact ⟨_, fun _ => reads_row (.inr ⟨_, rfl, hl, hm, by simpa using hz, hcell⟩)⟩
      · exact ⟨[], fun h => absurd h hi⟩
    refine ⟨_, (List.range len).map fun i => Classical.choose (hrow i), rfl, (List.range len).map V, ⟨⟨some a, cap, by simp, by simp⟩, by simp; simp [maxLen] at hm; omega, by rintro a n c e; cases e; exact hl, ?_⟩, ⟨by simp, ?_⟩⟩
    · intro i y hy
      have hi : i < len := by
        rcases Nat.lt_or_ge i len with h | h
        · exact h
        · rw [List.getElem?_eq_none (by simpa using h)] at hy; cases hy
      simp [hi] at hy
      subst hy
      exact (hx i (by omega)).1
    · intro i hi
      have hi : i < len := by simpa using hi
      have e1 : vat ((List.range len).map V) i = V i := by simp [vat, hi]
      have e2 : rat ((List.range len).map fun i => Classical.choose (hrow i)) i = Classical.choose (hrow i) := by simp [rat, hi]
      rw [e1, e2]
      exact Classical.choose_spec (hrow i) hi
theorem cellsNormal : Try.prog.cellsOf 24 = 3 := by kernel_rfl

set_option maxRecDepth 100000 in
theorem lifted_FnExactJoinNormals (os : Os) (started : os.Started) (H : Type) (enc : TypeId × Value → H) :
    ReturnsInHanded {} Try.checked os 10 .any (Rows.fnExactJoinNormalsSpec.pre6 enc Try.prog Try.f10 Rows.fnExactJoinNormalsRow.domain false) (Rows.fnExactJoinNormalsSpec.post enc Try.prog Try.f10 false true false false) := by
  refine returnsInHanded_of_change (C := Try.checked) ownKnobT started (by kernel_rfl) Try.func10
    (ChangeSpec.witness6 (enc := enc) (C := Try.checked) false ⟨#[], #[.agg #[.int .i64 0, .int .i64 0, .slice none 0 0], .agg #[.int .i64 0, .int .i64 0, .slice none 0 0]], []⟩ 8 (by kernel_rfl) (by kernel_rfl) (by kernel_rfl) (by kernel_rfl)) ?_
  intro W base args ds gs before hval0 hW hcnd _
  have hval : ∀ (j : Nat) t v, Try.f10.params[j]? = some t → args[j]? = some v → Value.okWide Try.prog W .any base t v := hval0
  have hW' := hW
  obtain ⟨p, q, hA0, hV, rfl, hfz, hnd⟩ := hW
  have hA : DataW.TrodAll enc Try.prog W 0 (fun _ => true) true Try.f10.params.toList args.toList ds p := hA0
  rw [Try.params10] at hA hval
  obtain ⟨v0, vs0, d0, ds0, p0, q0, hargs, rfl, rfl, h0, r0⟩ := trodAll_cons hA
  obtain ⟨v1, vs1, d1, ds1, p1, q1, rfl, rfl, rfl, h1, r1⟩ := trodAll_cons r0
  obtain ⟨rfl, rfl, rfl⟩ := trodAll_nil r1
  obtain rfl : args = #[v0, v1] := by cases args; simp_all
  obtain ⟨rfl, rfl⟩ := trodVars_none hV
  have k0 := h0
  have lt0 : ∀ x ∈ p0, x.block < W.heap.size := by obtain ⟨m, hm⟩ := k0; exact DataW.trod_lt m _ _ _ hm
  obtain ⟨c0, c1, c2, y0, y1, y2, m, rfl, rfl, rfl, hy0, hy1, hy2⟩ := Joins.open_agg3 Try.underlying24 (by kernel_rfl) cellsNormal (hval 0 24 v0 rfl rfl) h0
  obtain ⟨n0, e0, rfl, wn0⟩ := DataW.trod_int Try.underlying2 hy0
  obtain ⟨m0, e1, rfl, wm0⟩ := DataW.trod_int Try.underlying2 hy1
  simp at e0 e1; subst e0 e1
  obtain ⟨b0, z0, hb0, w0⟩ := open_rows hy2
  obtain rfl : c2 = b0 := by simpa using hb0
  have k1 := h1
  have lt1 : ∀ x ∈ p1, x.block < W.heap.size := by obtain ⟨m, hm⟩ := k1; exact DataW.trod_lt m _ _ _ hm
  obtain ⟨c0, c1, c2, y0, y1, y2, m, rfl, rfl, rfl, hy0, hy1, hy2⟩ := Joins.open_agg3 Try.underlying24 (by kernel_rfl) cellsNormal (hval 1 24 v1 rfl rfl) h1
  obtain ⟨n1, e0, rfl, wn1⟩ := DataW.trod_int Try.underlying2 hy0
  obtain ⟨m1, e1, rfl, wm1⟩ := DataW.trod_int Try.underlying2 hy1
  simp at e0 e1; subst e0 e1
  obtain ⟨b1, z1, hb1, w1⟩ := open_rows hy2
  obtain rfl : c2 = b1 := by simpa using hb1
  clear hA0 hval0
  refine (walk_FnExactJoinNormals _ _ _ _ _ _ _ _ W w0 w1).mono fun e W' ⟨he, bel⟩ => ?_
  subst he
  exact ⟨_, rfl, _, _, _, [], _, [], hW', trodAll_mk1 (shut_bool Try.underlying4 _), (trodAll_cons_mk (Below.trod laidOutT (by kernel_rfl) (of_decide_eq_true (by kernel_rfl)) k0 bel lt0) (trodAll_cons_mk (Below.trod laidOutT (by kernel_rfl) (of_decide_eq_true (by kernel_rfl)) k1 bel lt1) trodAll_mk0)), rfl, bel.frame _, fun h => by cases h⟩

/-- FnExactJoinNormals: for every input the law returns true. -/
theorem holds_FnExactJoinNormals : Rows.FnExactJoinNormalsSaid :=
  OpenClaim.holds_of_wide 10 Try.f10 rfl rfl rfl rfl rfl rfl rfl ⟨rfl, rfl, rfl, rfl, rfl⟩ rfl rfl rfl rfl rfl (by kernel_rfl) Try.func10 (by kernel_rfl)
    (of_decide_eq_true (by kernel_rfl)) (by unfold Func.isWrapper; first | (rw [if_pos (by decide +kernel)]; kernel_rfl) | (rw [if_neg (by decide +kernel)]; exact ⟨rfl, rfl⟩))
    (fun os started H enc _ => lifted_FnExactJoinNormals os started H enc)
#print axioms holds_FnExactJoinNormals

end Go.Proofs.Ytmeccemnmkobbaa
