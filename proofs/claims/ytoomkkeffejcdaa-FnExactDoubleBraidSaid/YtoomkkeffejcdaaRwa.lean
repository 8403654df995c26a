/- Contracts: copies, searches, the first letter that can be moved, left-weighted pairs. -/
import Derived.Test.YtoomkkeffejcdaaWpd
import Derived.Test.YtoomkkeffejcdaaWpe
import Derived.Test.YtoomkkeffejcdaaApq
import Derived.Lib.LazyBuf
namespace Go.Proofs.Ytoomkkeffejcdaa
open Go.RowKit

set_option maxHeartbeats 1000000 in
theorem clone_run (v : Value) (l : List Int) (w : World) (h : Reads w v (ints l)) (hl : l.length ≤ 1048576) :
    Calls Try.prog 71 #[v] w fun e w' => ∃ u, e = .returned u ∧ Own w' w.heap.size 2 u (ints l) ∧ Below w.heap.size w w' := by
  obtain ⟨a, c, hv, ha⟩ := h.form
  cases a with
  | none =>
    have hl0 : l = [] := by
      cases l with
      | nil => rfl
      | cons x r => exact absurd rfl (ha (by simp [ints]))
    subst hl0
    have hv' : v = .slice none 0 c := hv
    clear hv ha
    subst hv'
    have hq := Go.run_eql_slice_nil (P := Try.prog) w 22 2 none 0 c sliceI
    go_enter Try.func71, Try.ntmps71
    go_wp2_with fail
    go_ret
    exact ⟨_, rfl, .inl ⟨rfl, rfl⟩, Below.refl _ _⟩
  | some b =>
    have h1 := reads_alloc h (.cells #[] 2)
    have ho : Own (w.alloc (.cells #[] 2)) w.heap.size 2 (.slice (some ⟨w.heap.size, 0, none⟩) 0 0) [] := own_empty w _ (Nat.le_refl _)
    have hb : Below w.heap.size w (w.alloc (.cells #[] 2)) := (Below.refl _ _).alloc (Nat.le_refl _) _
    obtain ⟨v', w', hrun, hown', hg⟩ := app_run (ty := 22) sliceI infoI rfl ho h1 (oneCell_ints l) (by simp) (by simp; omega) (by decide)
    have hb2 := hb.grown hg (by simp) (fun k hk => (ho.blk_lt hk).1)
    clear h1 ho hb hg ha
    rw [length_ints] at hv
    subst hv
    have hq := Go.run_eql_slice_nil (P := Try.prog) w 22 2 (some b) l.length c sliceI
    simp only [Option.isNone] at hq
    go_enter Try.func71, Try.ntmps71
    go_wp2_with (at_builtin; refine wpList_app hrun rfl _ _ rfl rfl rfl ?_)
    go_ret
    exact ⟨_, rfl, by simpa using hown', hb2⟩

/-- the first letter with which q can begin but p cannot end; 0 if there is none -/
def extraF (p q : List Int) : Int := ((startF q).find? fun k => !hasF (startF (invF p)) k).getD 0
theorem find_first {S : List Int} {f : Int → Bool} {k : Nat} (hk : k < S.length) (hno : ∀ j, j < k → f (nth S j) = false) (hy : f (nth S k) = true) : S.find? f = some (nth S k) := by
  induction S generalizing k with
  | nil => simp at hk
  | cons x S ih =>
    cases k with
    | zero => rw [List.find?_cons_of_pos (by simpa [nth] using hy)]; rfl
    | succ k =>
      have h0 := hno 0 (by omega)
      rw [List.find?_cons_of_neg (by simpa [nth] using h0)]
      have := ih (k := k) (by simpa using hk) (fun j hj => by have := hno (j + 1) (by omega); simpa [nth] using this) (by simpa [nth] using hy)
      rw [this]; simp [nth]
theorem find_no {S : List Int} {f : Int → Bool} (hno : ∀ j, j < S.length → f (nth S j) = false) : S.find? f = none := by
  rw [List.find?_eq_none]
  intro x hx
  obtain ⟨j, hj, rfl⟩ := List.getElem_of_mem hx
  have := hno j hj
  simpa [nth, hj] using this


/-- whether a pair is left-weighted -/
def lwF (p q : List Int) : Bool := okP p && okP q && decide (p.length = q.length) && (extraF p q == 0)

end Go.Proofs.Ytoomkkeffejcdaa
