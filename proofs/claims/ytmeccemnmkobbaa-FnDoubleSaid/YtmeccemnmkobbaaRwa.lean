/- Contracts: copies, searches, the first letter that can be moved, left-weighted pairs. -/
import Derived.Test.YtmeccemnmkobbaaWpd
import Derived.Test.YtmeccemnmkobbaaWpe
import Derived.Test.YtmeccemnmkobbaaApq
import Derived.Lib.LazyBuf
namespace Go.Proofs.Ytmeccemnmkobbaa
open Go.RowKit

set_option maxRecDepth 100000 in
set_option maxHeartbeats 1000000 in
theorem clone_run (v : Value) (l : List Int) (w : World) (h : Reads w v (ints l)) (hl : l.length ≤ 1048576) :
    Calls Try.prog 96 #[v] w fun e w' => ∃ u, e = .returned u ∧ Own w' w.heap.size 2 u (ints l) ∧ Below w.heap.size w w' := by
  obtain ⟨a, c, hv, ha⟩ := h.form
  cases a with
  | none =>
    have hl0 : l = [] := by
      cases l with
      | nil => rfl
      | cons x r => exact absurd rfl (ha (by simp [ints]))
    subst hl0
    have hv' : v = .slice none 0 c := hv
    clear hv ha
    subst hv'
    have hq := Go.run_eql_slice_nil (P := Try.prog) w 32 2 none 0 c sliceI
    go_enter Try.func96, Try.ntmps96
    go_wp2_with fail
    go_ret
    exact ⟨_, rfl, .inl ⟨rfl, rfl⟩, Below.refl _ _⟩
  | some b =>
    have h1 := reads_alloc h (.cells #[] 2)
    have ho : Own (w.alloc (.cells #[] 2)) w.heap.size 2 (.slice (some ⟨w.heap.size, 0, none⟩) 0 0) [] := own_empty w _ (Nat.le_refl _)
    have hb : Below w.heap.size w (w.alloc (.cells #[] 2)) := (Below.refl _ _).alloc (Nat.le_refl _) _
    obtain ⟨v', w', hrun, hown', hg⟩ := app_run (ty := 32) sliceI infoI rfl ho h1 (oneCell_ints l) (by simp) (by simp; omega) (by decide)
    have hb2 := hb.grown hg (by simp) (fun k hk => (ho.blk_lt hk).1)
    clear h1 ho hb hg ha
    rw [length_ints] at hv
    subst hv
    have hq := Go.run_eql_slice_nil (P := Try.prog) w 32 2 (some b) l.length c sliceI
    simp only [Option.isNone] at hq
    go_enter Try.func96, Try.ntmps96
    go_wp2_with (at_builtin; refine wpList_app hrun rfl _ _ rfl rfl rfl ?_)
    go_ret
    exact ⟨_, rfl, by simpa using hown', hb2⟩

set_option maxRecDepth 100000 in
set_option maxHeartbeats 1000000 in
theorem index_run (v : Value) (l : List Int) (x : Int) (w : World) (h : Reads w v (ints l)) :
    Calls Try.prog 134 #[v, .int .i64 x] w fun e w' => (∃ q : Int, e = .returned (.int .i64 q) ∧ decide (0 ≤ q) = hasF l x) ∧ w = w' := by
  have hs := h.small
  have hlen := h.len (P := Try.prog) 32 3 ⟨_, sliceI⟩
  simp only [length_ints] at hs hlen
  go_enter Try.func134, Try.ntmps134
  go_wp2_with fail
  go_loop [5, 8] (fun _ i => ∃ k : Nat, k ≤ l.length ∧ i = .int .i64 k ∧ ((List.range k).any fun j => nth l j == x) = false) (fun _ i => l.length - (intOf i).toNat)
  case atStart => exact ⟨0, by omega, rfl, rfl⟩
  case round =>
    obtain ⟨k, hk, rfl, hno⟩ := hrel
    by_cases hlt : k < l.length
    · have hi := h.idx 32 sliceI sizeI .i64 k (by omega) (by simpa using hlt)
      simp only [Int.toNat_natCast] at hi
      have hc := h.int hlt
      cases e1 : (x == nth l k) with
      | true =>
        have e2 : nth l k = x := by have : x = nth l k := by simpa using e1
                                    exact this.symm
        have hyes := hid (show hasF l x = true by unfold hasF; rw [List.any_eq_true]; exact ⟨k, by simpa using hlt, by simp [e2]⟩)
        clear hno e2
        go_wp2_with fail
        go_ret
        exact ⟨⟨_, rfl, by rw [hyes.out]; simp⟩, rfl⟩
      | false =>
        have e2 : (nth l k == x) = false := by rw [beq_eq_false_iff_ne] at e1 ⊢; exact fun e => e1 e.symm
        have hn := hid (show ((List.range (k + 1)).any fun j => nth l j == x) = false by rw [List.range_succ, List.any_append, hno]; simp [e2])
        clear hno e2
        go_wp2_with fail
        go_round
        case rel => exact ⟨k + 1, by omega, by go_num, hn.out⟩
        case measure => simp [intOf]; omega
    · obtain rfl : k = l.length := by omega
      have hn := hid (show hasF l x = false from hno)
      clear hno
      go_wp2_with fail
      go_ret
      exact ⟨⟨-1, rfl, by rw [hn.out]; rfl⟩, rfl⟩

set_option maxRecDepth 100000 in
set_option maxHeartbeats 1000000 in
theorem contains_run (v : Value) (l : List Int) (x : Int) (w : World) (h : Reads w v (ints l)) :
    Calls Try.prog 113 #[v, .int .i64 x] w fun e w' => e = .returned (.bool (hasF l x)) ∧ w = w' := by
  go_enter Try.func113, Try.ntmps113
  go_wp2_with (go_at_call 134; refine (index_run _ _ _ _ h).mono ?_; rintro e w1 ⟨⟨q, rfl, hq⟩, rfl⟩)
  go_ret
  exact ⟨by rw [← hq]; rfl, rfl⟩

/-- the first letter with which q can begin but p cannot end; 0 if there is none -/
def extraF (p q : List Int) : Int := ((startF q).find? fun k => !hasF (startF (invF p)) k).getD 0
theorem find_first {S : List Int} {f : Int → Bool} {k : Nat} (hk : k < S.length) (hno : ∀ j, j < k → f (nth S j) = false) (hy : f (nth S k) = true) : S.find? f = some (nth S k) := by
  induction S generalizing k with
  | nil => simp at hk
  | cons x S ih =>
    cases k with
    | zero => rw [List.find?_cons_of_pos (by simpa [nth] using hy)]; rfl
    | succ k =>
      have h0 := hno 0 (by omega)
      rw [List.find?_cons_of_neg (by simpa [nth] using h0)]
      have := ih (k := k) (by simpa using hk) (fun j hj => by have := hno (j + 1) (by omega); simpa [nth] using this) (by simpa [nth] using hy)
      rw [this]; simp [nth]
theorem find_no {S : List Int} {f : Int → Bool} (hno : ∀ j, j < S.length → f (nth S j) = false) : S.find? f = none := by
  rw [List.find?_eq_none]
  intro x hx
  obtain ⟨j, hj, rfl⟩ := List.getElem_of_mem hx
  have := hno j hj
  simpa [nth, hj] using this


set_option maxRecDepth 100000 in
set_option maxHeartbeats 2000000 in
theorem extra_spec (v u' : Value) (l m : List Int) (w : World) (h : Reads w v (ints l)) (h' : Reads w u' (ints m)) (hl : l.length ≤ 1048576) (hl' : m.length ≤ 1048576) (hr : ∀ i, i < l.length → 0 ≤ nth l i ∧ nth l i < l.length) :
    Calls Try.prog 110 #[v, u'] w fun e w' => e = .returned (.int .i64 (extraF l m)) ∧ Below w.heap.size w w' := by
  go_enter Try.func110, Try.ntmps110
  go_wp2_with fail
  refine (finish_spec _ _ _ h hl hr).mono ?_
  rintro e w1 ⟨u, rfl, hu, hb1⟩
  go_wp2_with fail
  refine (start_spec _ _ _ (h'.below hb1) hl').mono ?_
  rintro e w2 ⟨s, rfl, hs2, hb2⟩
  have hb3 := hb1.trans (hb2.mono hb1.size)
  have hu3 := hu.reads.below hb2
  have hlen := hs2.reads.len (P := Try.prog) 32 3 ⟨_, sliceI⟩
  simp only [length_ints] at hlen
  have hsm := hs2.reads.small
  simp only [length_ints] at hsm
  have hX := hid (show extraF l m = ((startF m).find? fun k => !hasF (startF (invF l)) k).getD 0 from rfl)
  have hs3 := hs2.reads
  clear hu hs2 hb1 hb2
  generalize startF m = S at *
  generalize startF (invF l) = Fi at *
  go_wp2_with fail
  go_loop [7] (fun i => ∃ k : Nat, k ≤ S.length ∧ i = .int .i64 k ∧ ∀ j, j < k → hasF Fi (nth S j) = true) (fun i => S.length - (intOf i).toNat)
  case atStart => exact ⟨0, by omega, rfl, by omega⟩
  case round =>
    obtain ⟨k, hk, rfl, hno⟩ := hrel
    have hno' := hid hno
    clear hno
    by_cases hlt : k < S.length
    · have hi := hs3.idx 32 sliceI sizeI .i64 k (by omega) (by simpa using hlt)
      simp only [Int.toNat_natCast] at hi
      have hc := hs3.int hlt
      have hC := hid (has_spec u Fi (nth S k) _ hu3)
      cases e1 : hasF Fi (nth S k) with
      | true =>
        have e2 := hid e1
        rw [e1] at hC
        clear e1
        go_wp2_with (go_at_call 132; refine (hC.out).mono ?_; rintro e w3 ⟨rfl, rfl⟩)
        go_round
        case rel => exact ⟨k + 1, by omega, by go_num, forall_snoc (p := fun j => hasF Fi (nth S j) = true) hno'.out e2.out⟩
        case measure => simp [intOf]; omega
      | false =>
        have hres := hid (show extraF l m = nth S k by rw [hX.out, find_first hlt (fun j hj => by rw [hno'.out j hj]; rfl) (by rw [e1]; rfl)]; rfl)
        rw [e1] at hC
        clear e1
        go_wp2_with (go_at_call 132; refine (hC.out).mono ?_; rintro e w3 ⟨rfl, rfl⟩)
        go_ret
        exact ⟨by first | (rw [hres.out]; rfl) | rw [hres.out], hb3⟩
    · obtain rfl : k = S.length := by omega
      have hres := hid (show extraF l m = 0 by rw [hX.out, find_no (fun j hj => by rw [hno'.out j hj]; rfl)]; rfl)
      go_wp2_with fail
      go_ret
      exact ⟨by first | (rw [hres.out]; rfl) | rw [hres.out], hb3⟩


set_option maxRecDepth 100000 in
set_option maxHeartbeats 2000000 in
theorem missing_impl (v u' : Value) (l m : List Int) (w : World) (h : Reads w v (ints l)) (h' : Reads w u' (ints m)) (hl : l.length ≤ 1048576) (hl' : m.length ≤ 1048576) (hr : ∀ i, i < l.length → 0 ≤ nth l i ∧ nth l i < l.length) :
    Calls Try.prog 62 #[v, u'] w fun e w' => e = .returned (.int .i64 (extraF l m)) ∧ Below w.heap.size w w' := by
  go_enter Try.func62, Try.ntmps62
  go_wp2_with fail
  refine (inv_impl _ _ _ h hl hr).mono ?_
  rintro e w0 ⟨u0, rfl, hu0, hb0⟩
  go_wp2_with fail
  refine (start_impl _ _ _ hu0.reads (by simpa using hl)).mono ?_
  rintro e w1 ⟨u, rfl, hu, hb1'⟩
  have hb1 := hb0.trans (hb1'.mono hb0.size)
  replace hu := hu.mono hb0.size
  clear hu0 hb0 hb1'
  go_wp2_with fail
  refine (start_impl _ _ _ (h'.below hb1) hl').mono ?_
  rintro e w2 ⟨s, rfl, hs2, hb2⟩
  have hb3 := hb1.trans (hb2.mono hb1.size)
  have hu3 := hu.reads.below hb2
  have hlen := hs2.reads.len (P := Try.prog) 32 3 ⟨_, sliceI⟩
  simp only [length_ints] at hlen
  have hsm := hs2.reads.small
  simp only [length_ints] at hsm
  have hX := hid (show extraF l m = ((startF m).find? fun k => !hasF (startF (invF l)) k).getD 0 from rfl)
  have hs3 := hs2.reads
  clear hu hs2 hb1 hb2
  generalize startF m = S at *
  generalize startF (invF l) = Fi at *
  go_wp2_with fail
  go_loop [7, 14] (fun _ i => ∃ k : Nat, k ≤ S.length ∧ i = .int .i64 k ∧ ∀ j, j < k → hasF Fi (nth S j) = true) (fun _ i => S.length - (intOf i).toNat)
  case atStart => exact ⟨0, by omega, rfl, by omega⟩
  case round =>
    obtain ⟨k, hk, rfl, hno⟩ := hrel
    have hno' := hid hno
    clear hno
    by_cases hlt : k < S.length
    · have hi := hs3.idx 32 sliceI sizeI .i64 k (by omega) (by simpa using hlt)
      simp only [Int.toNat_natCast] at hi
      have hc := hs3.int hlt
      have hC := hid (contains_run u Fi (nth S k) _ hu3)
      cases e1 : hasF Fi (nth S k) with
      | true =>
        have e2 := hid e1
        rw [e1] at hC
        clear e1
        go_wp2_with (go_at_call 113; refine (hC.out).mono ?_; rintro e w3 ⟨rfl, rfl⟩)
        go_round
        case rel => exact ⟨k + 1, by omega, by go_num, forall_snoc (p := fun j => hasF Fi (nth S j) = true) hno'.out e2.out⟩
        case measure => simp [intOf]; omega
      | false =>
        have hres := hid (show extraF l m = nth S k by rw [hX.out, find_first hlt (fun j hj => by rw [hno'.out j hj]; rfl) (by rw [e1]; rfl)]; rfl)
        rw [e1] at hC
        clear e1
        go_wp2_with (go_at_call 113; refine (hC.out).mono ?_; rintro e w3 ⟨rfl, rfl⟩)
        go_ret
        exact ⟨by first | (rw [hres.out]; rfl) | rw [hres.out], hb3⟩
    · obtain rfl : k = S.length := by omega
      have hres := hid (show extraF l m = 0 by rw [hX.out, find_no (fun j hj => by rw [hno'.out j hj]; rfl)]; rfl)
      go_wp2_with fail
      go_ret
      exact ⟨by first | (rw [hres.out]; rfl) | rw [hres.out], hb3⟩


/-- whether a pair is left-weighted -/
def lwF (p q : List Int) : Bool := okP p && okP q && decide (p.length = q.length) && (extraF p q == 0)

end Go.Proofs.Ytmeccemnmkobbaa
