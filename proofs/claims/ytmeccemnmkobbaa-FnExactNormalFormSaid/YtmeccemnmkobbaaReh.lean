/- Contracts: a normal form is multiplied by a permutation, in the program. -/
import Derived.Test.YtmeccemnmkobbaaReg
namespace Go.Proofs.Ytmeccemnmkobbaa
open Go.RowKit
open Pm

theorem vat_snoc_lt {us : List Value} {u : Value} {i : Nat} (h : i < us.length) : vat (us ++ [u]) i = vat us i := vat_snoc h
/-- a new row is put behind -/
theorem NB.app {n : Nat} {w w1 : World} {B : Nat} {o u : Value} {us : List Value} {L : List (Pm n)} {p : Pm n} (h : NB w B o us L) (hb : Below w.heap.size w w1) (hB : B ≤ w.heap.size) (hu : Own w1 w.heap.size 2 u (ints p.1)) (hl : L.length ≤ 1048576) :
    ∃ v' w', (Builtin.append_ #[22, 22] 22 #[o, .slice (some ⟨w1.heap.size, 0, none⟩) 1 1]).run Try.prog (w1.alloc (.cells #[u] 32)) = .ok v' w' ∧ NB w' B v' (us ++ [u]) (L ++ [p]) ∧ Below B w1 w' := by
  have ha : Below w1.heap.size w1 (w1.alloc (.cells #[u] 32)) := (Below.refl _ _).alloc (Nat.le_refl _) _
  have hsz := hb.size
  have h1 := h.below hb
  have hA := h1.below ha
  have hone : u.oneCell' = true := by obtain ⟨a, c, e, -⟩ := hu.reads.form; rw [e]; rfl
  have hul := h.len
  obtain ⟨v', w', hr, ho, hg, hst⟩ := app_runF (ty := 22) sliceII infoSI rfl hA.own (reads_one w1 u 32) (by simpa using hone) (by simp; omega) (by simp; omega) (by decide)
  have hbw : Below B w1 w' := (ha.mono (by omega)).grown hg (by simp; omega) (fun k hk => (hA.own.blk_lt hk).1)
  have hapu : Apart u o := apart_new' h.own hu
  have hkeep : ∀ {B' : Nat} {e : TypeId} {v : Value} {xs : List Value}, Own w1 B' e v xs → Apart v o → Own w' B' e v xs := fun {B' e v xs} hr ha2 =>
    (hr.below ha).keep fun k hk hlt => hg.block k hlt (fun e => ha2 k hk e)
  have hst' : ∀ {v : Value}, (∀ k, blk v = some k → k < w1.heap.size) → Apart v o → Apart v v' := fun {v} hv ha2 k hk e => by
    rcases hst k e.symm with h1 | h1
    · exact ha2 k hk h1.symm
    · have := hv k hk; simp at h1; omega
  have hp1 : ∀ i, i < L.length → pat (L ++ [p]) i = pat L i := fun i hi => by unfold pat; rw [List.getElem?_append_left hi]
  have hp2 : pat (L ++ [p]) L.length = p := by simp [pat]
  have hv1 : ∀ i, i < L.length → vat (us ++ [u]) i = vat us i := fun i hi => vat_snoc (by omega)
  have hv2 : vat (us ++ [u]) L.length = u := by rw [← hul]; exact vat_last us u
  refine ⟨v', w', hr, ⟨ho, by simp [hul], fun i hi => ?_, fun i j hij hi hj => ?_, fun i hi => ?_⟩, hbw⟩
  · rw [List.length_append, List.length_singleton] at hi
    by_cases e : i < L.length
    · rw [hv1 i e, hp1 i e]; exact hkeep (h1.row i e) (h.outer i e)
    · obtain rfl : i = L.length := by omega
      rw [hv2, hp2]; exact (hkeep hu hapu).mono (by omega)
  · rw [List.length_append, List.length_singleton] at hi hj
    by_cases e : i < L.length
    · by_cases e2 : j < L.length
      · rw [hv1 i e, hv1 j e2]; exact h.apart i j hij e e2
      · obtain rfl : j = L.length := by omega
        rw [hv1 i e, hv2]; exact apart_new (h.row i e) hu
    · obtain rfl : i = L.length := by omega
      by_cases e2 : j < L.length
      · rw [hv2, hv1 j e2]; exact apart_new' (h.row j e2) hu
      · omega
  · rw [List.length_append, List.length_singleton] at hi
    by_cases e : i < L.length
    · rw [hv1 i e]; exact hst' (fun k hk => ((h1.row i e).blk_lt hk).2) (h.outer i e)
    · obtain rfl : i = L.length := by omega
      rw [hv2]; exact hst' (fun k hk => (hu.blk_lt hk).2) hapu


end Go.Proofs.Ytmeccemnmkobbaa
