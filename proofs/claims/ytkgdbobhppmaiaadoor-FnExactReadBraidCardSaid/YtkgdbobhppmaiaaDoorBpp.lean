/- Words that cancel, sums of signs, permutations of joined words, letters seen twice from the other side. Plain. -/
import Derived.Test.YtkgdbobhppmaiaaDoorBrh
import Derived.Test.YtkgdbobhppmaiaaDoorInv
import Derived.Test.YtkgdbobhppmaiaaDoorGaw
import Derived.Test.YtkgdbobhppmaiaaDoorBrg
import Derived.Test.YtkgdbobhppmaiaaDoorBrk
import Derived.Test.YtkgdbobhppmaiaaDoorSre
namespace Go.Proofs.YtkgdbobhppmaiaaDoor
open Go.RowKit

/-- the exchanges of the letters of a word -/
def exchL (l : List Int) : List Int := l.map fun k => absI k - 1
@[simp] theorem length_exchL (l : List Int) : (exchL l).length = l.length := by simp [exchL]
theorem nth_exchL {l : List Int} {i : Nat} (h : i < l.length) : nth (exchL l) i = absI (nth l i) - 1 := nth_map _ h
theorem absI_bd {n k : Int} (h0 : k ≠ 0) (h1 : 1 - n ≤ k) (h2 : k ≤ n - 1) : 1 ≤ absI k ∧ absI k ≤ n - 1 := by unfold absI; split <;> omega
/-- the permutation of a braid; none if it is not valid -/
def permB (n : Int) (l : List Int) : List Int := if okB n l then wordF n.toNat (exchL l) else []
theorem adr_ne' {w : World} {B : Nat} {e : TypeId} {v : Value} {xs : List Value} (h : Own w B e v xs) {i j : Nat} (hi : i < xs.length) (hne : i ≠ j) : adr v i ≠ adr v j := h.adr_ne hi hne


set_option maxRecDepth 100000 in
set_option maxHeartbeats 2000000 in
theorem exch_impl (v : Value) (l : List Int) (w : World) (h : Reads w v (ints l)) (hl : l.length ≤ 1048576) (hr : ∀ k, k < l.length → -1000 ≤ nth l k ∧ nth l k ≤ 1000) :
    Calls Tryd.prog 80 #[v] w fun e w' => ∃ u, e = .returned u ∧ Own w' w.heap.size 2 u (ints (exchL l)) ∧ Below w.heap.size w w' := by
  have hs := h.small
  have hlen := h.len (P := Tryd.prog) 35 3 ⟨_, sliceI⟩
  simp only [length_ints] at hs hlen
  have hmk := cap_run sliceI infoI rfl l.length (by omega) (by omega) (by omega)
  simp only [Int.toNat_natCast] at hmk
  have hR := hid hr
  clear hr
  go_enter Tryd.func80, Tryd.ntmps80
  go_wp2_with fail
  go_loopw [3, 5, 11] (fun u _ i wr => ∃ k : Nat, k ≤ l.length ∧ i = .int .i64 k ∧ Own wr w.heap.size 2 u (ints ((exchL l).take k)) ∧ Below w.heap.size w wr) (fun _ _ i _ => l.length - (intOf i).toNat)
  case atStart => exact ⟨0, by omega, by simp, own_cap w _ _ _ (by omega) (Nat.le_refl _), below_made _ _ _ _⟩
  case round =>
    obtain ⟨k, hk, rfl, hown, hb⟩ := hrel
    by_cases hlt : k < l.length
    · have hi := h.idx 35 sliceI sizeI .i64 k (by omega) (by simpa using hlt)
      simp only [Int.toNat_natCast] at hi
      have hc := (h.below hb).int hlt
      have hra := hR.out k hlt
      have hT := hid (show (exchL l).take (k + 1) = (exchL l).take k ++ [absI (nth l k) - 1] from take_map_succ _ hlt)
      generalize nth l k = a at *
      have hA := hid (fun w => size_impl a w (by omega))
      have hab : 0 ≤ absI a ∧ absI a ≤ 1000 := by unfold absI; split <;> omega
      generalize absI a = b at *
      obtain ⟨v', w', hrun, hown', hb'⟩ := app_one (ty := 35) (x := .int .i64 (b - 1)) sliceI infoI rfl hown rfl hb.size (by simp; omega) (by decide) hb (Nat.le_refl _)
      have hst : Own w' w.heap.size 2 v' (ints ((exchL l).take (k + 1))) := by rw [hT.out]; simpa [ints] using hown'
      clear hown'
      go_wp2_with (first | (go_at_call 78; refine (hA.out _).mono ?_; rintro e w1 ⟨rfl, rfl⟩) | (at_builtin; refine wpList_app hrun rfl _ _ rfl rfl rfl ?_))
      go_roundw
      case rel => exact ⟨k + 1, by omega, by go_num, hst, hb'⟩
      case measure => simp [intOf]; omega
    · obtain rfl : k = l.length := by omega
      rw [List.take_of_length_le (by simp)] at hown
      go_wp2_with fail
      go_ret
      exact ⟨_, rfl, hown, hb⟩

theorem range_E {n : Int} {l : List Int} (h : okB n l = true) : ∀ i, i < (exch (idn n.toNat) (exchL l)).length → 0 ≤ nth (exch (idn n.toNat) (exchL l)) i ∧ nth (exch (idn n.toNat) (exchL l)) i < (exch (idn n.toNat) (exchL l)).length := by
  obtain ⟨q0, q1, q2, q3⟩ := okB_of h
  have := range_exch (l := idn n.toNat) (word := exchL l) (P := fun x => 0 ≤ x ∧ x < n.toNat) (fun i hi => by
    rw [length_exchL] at hi
    obtain ⟨a, b, c⟩ := q3 i hi
    have := absI_bd a b c
    rw [nth_exchL hi]; simp; omega) (fun i hi => by simp at hi; rw [nth_idn (by omega)]; omega) l.length (by simp)
  rw [List.take_of_length_le (by simp)] at this
  intro i hi
  simp only [length_exch, length_idn] at hi ⊢
  exact this i (by simpa using hi)

set_option maxRecDepth 100000 in
set_option maxHeartbeats 2000000 in
theorem bp_impl (n : Int) (v : Value) (l : List Int) (w : World) (h : Reads w v (ints l)) :
    Calls Tryd.prog 44 #[.agg #[.int .i64 n, v]] w fun e w' => ∃ u, e = .returned u ∧ Own w' w.heap.size 2 u (ints (permB n l)) ∧ Below w.heap.size w w' := by
  have hA0 := Bx.new w #[.int .i64 n, v] 40
  have hr0 := reads_alloc h (.cells #[.int .i64 n, v] 40)
  have hb0 : Below w.heap.size w (w.alloc (.cells #[.int .i64 n, v] 40)) := (Below.refl _ _).alloc (Nat.le_refl _) _
  go_enter Tryd.func44, Tryd.ntmps44
  go_wp2_with fail
  refine (vb_impl n v l _ hr0).mono ?_
  rintro e w1 ⟨rfl, hs1⟩
  have hb1 := hb0.trans (hs1.mono hb0.size)
  have hA1 := hA0.below hs1
  have hr1 := hr0.below hs1
  clear hs1 hb0 hA0 hr0
  have A10 := hA1.cell 0 rfl
  have A11 := hA1.cell 1 rfl
  cases e1 : okB n l with
  | false =>
    have hres : permB n l = [] := by simp [permB, e1]
    go_wp2_with fail
    go_ret
    exact ⟨_, rfl, by rw [hres]; exact own_nilB _ _ _, hb1⟩
  | true =>
    obtain ⟨q0, q1, q2, q3⟩ := okB_of e1
    have hres : permB n l = wordF n.toNat (exchL l) := by simp [permB, e1]
    have hE := hid (exch_impl v l w1.drew (hr1.drewN 1) (by omega) (fun k hk => by have := q3 k hk; omega))
    have hW := hid (fun (u : Value) (w' : World) (hu : Reads w' u (ints (exchL l))) => word_impl n u (exchL l) w' hu q0 (by omega) (by simp; omega) (fun i hi => by rw [length_exchL] at hi; obtain ⟨a, b, c⟩ := q3 i hi; have := absI_bd a b c; rw [nth_exchL hi]; omega))
    have hK := hid (fun (w' : World) (hw : Below w1.drew.heap.size w1.drew w') => (hA1.drew).below hw)
    clear q3 hr1
    go_wp2_with fail
    go_region_with (first | (go_at_call 80; refine hE.out.mono ?_; rintro e w2 ⟨u, rfl, ho, hs⟩; have hA2 := hK.out _ hs; have dA0 := hA2.cell 0 rfl; have dA1 := hA2.cell 1 rfl) | (go_at_call 79; refine (hW.out _ _ ho.reads).mono ?_; rintro e w3 ⟨p, rfl, hp, hs3⟩))
    all_goals
      go_wp2_with fail
      go_ret
      have hb2 := hb1.trans (((Below.refl _ w1).drew.trans (hs.mono (Nat.le_refl _))).mono hb1.size)
      have hb3 := hb2.trans (hs3.mono hb2.size)
      exact ⟨_, rfl, by rw [hres]; exact hp.mono hb2.size, hb3⟩


end Go.Proofs.YtkgdbobhppmaiaaDoor

namespace Go.Proofs.YtkgdbobhppmaiaaDoor

theorem swapAt_map (f : Int → Int) {L : List Int} {k : Nat} (hk : k + 1 < L.length) : swapAt (L.map f) k = (swapAt L k).map f := by
  unfold swapAt
  rw [nth_map f hk, nth_map f (by omega), List.map_set, List.map_set]
theorem exch_map (f : Int → Int) (w : List Int) {L : List Int} (h : ∀ k ∈ w, k.toNat + 1 < L.length) : exch (L.map f) w = (exch L w).map f := by
  induction w generalizing L with
  | nil => rfl
  | cons k w ih =>
    show exch (swapAt (L.map f) k.toNat) w = (exch (swapAt L k.toNat) w).map f
    rw [swapAt_map f (h k (by simp))]
    exact ih (fun x hx => by rw [length_swapAt]; exact h x (by simp [hx]))
theorem as_map (z : List Int) : (idn z.length).map (fun x => nth z x.toNat) = z := by
  refine ext_nth (by simp) fun i hi => ?_
  rw [List.length_map, length_idn] at hi
  rw [nth_map _ (by simpa using hi), nth_idn hi]
  simp
theorem IsPerm.swapAt {l : List Int} (h : IsPerm l) {k : Nat} (hk : k + 1 < l.length) : IsPerm (swapAt l k) := by
  intro i hi
  rw [length_swapAt] at hi
  have hσ : ∀ i, i < l.length → ∃ s, s < l.length ∧ nth (Go.Proofs.YtkgdbobhppmaiaaDoor.swapAt l k) i = nth l s ∧ (s = if i = k then k + 1 else if i = k + 1 then k else i) := by
    intro i hi
    refine ⟨if i = k then k + 1 else if i = k + 1 then k else i, ?_, ?_, rfl⟩
    · split
      · omega
      · split <;> omega
    · rw [nth_swapAt hk]
      split
      · rfl
      · split <;> rfl
  obtain ⟨s, hs, es, ds⟩ := hσ i hi
  rw [es, length_swapAt]
  refine ⟨h.lo hs, h.hi hs, ?_⟩
  intro j hj
  obtain ⟨t, ht, et, dt⟩ := hσ j (by omega)
  rw [et]
  refine h.ne ht hs ?_
  intro e
  rw [ds, dt] at e
  split at e <;> split at e <;> (try split at e) <;> (try split at e) <;> omega
theorem exch_isPerm (w : List Int) {L : List Int} (hL : IsPerm L) (h : ∀ k ∈ w, k.toNat + 1 < L.length) : IsPerm (exch L w) := by
  induction w generalizing L with
  | nil => exact hL
  | cons k w ih =>
    show IsPerm (exch (swapAt L k.toNat) w)
    exact ih (hL.swapAt (h k (by simp))) (fun x hx => by rw [length_swapAt]; exact h x (by simp [hx]))

end Go.Proofs.YtkgdbobhppmaiaaDoor

namespace Go.Proofs.YtkgdbobhppmaiaaDoor

/-! words without letters that cancel -/
/-- no two neighbours cancel -/
def Rdd (o : List Int) : Prop := ∀ i, i + 1 < o.length → nth o (i + 1) ≠ -nth o i
theorem Rdd.nil : Rdd [] := fun i hi => by simp at hi
theorem nth_app_lt {o : List Int} {x : Int} {i : Nat} (h : i < o.length) : nth (o ++ [x]) i = nth o i := by simp [nth, List.getElem?_append_left h]
theorem nth_app_end (o : List Int) (x : Int) : nth (o ++ [x]) o.length = x := by simp [nth]
theorem nth_take' {o : List Int} {k i : Nat} (h : i < k) : nth (o.take k) i = nth o i := by simp [nth, h]
theorem Rdd.take {o : List Int} (h : Rdd o) (k : Nat) : Rdd (o.take k) := by
  intro i hi
  rw [List.length_take] at hi
  rw [nth_take' (by omega), nth_take' (by omega)]
  exact h i (by omega)
theorem Rdd.push {o : List Int} (h : Rdd o) (k : Int) : Rdd (redPush o k) := by
  by_cases e : 0 < o.length ∧ nth o (o.length - 1) = -k
  · rw [redPush_pop e.1 e.2]; exact h.take _
  · rw [redPush_app e]
    intro i hi
    rw [List.length_append, List.length_singleton] at hi
    by_cases hl : i + 1 < o.length
    · rw [nth_app_lt hl, nth_app_lt (by omega)]; exact h i hl
    · have e1 : i + 1 = o.length := by omega
      have hA : nth (o ++ [k]) (i + 1) = k := by rw [e1, nth_app_end]
      have hB : nth (o ++ [k]) i = nth o i := nth_app_lt (by omega)
      rw [hA, hB]
      intro e2
      apply e
      refine ⟨by omega, ?_⟩
      rw [show o.length - 1 = i by omega]; omega
theorem push_back {o : List Int} (h : Rdd o) (k : Int) : redPush (redPush o k) (-k) = o := by
  by_cases e : 0 < o.length ∧ nth o (o.length - 1) = -k
  · rw [redPush_pop e.1 e.2]
    have hl : (o.take (o.length - 1)).length = o.length - 1 := by simp
    have hn : ¬ (0 < (o.take (o.length - 1)).length ∧ nth (o.take (o.length - 1)) ((o.take (o.length - 1)).length - 1) = - -k) := by
      rintro ⟨h1, h2⟩
      rw [hl] at h1 h2
      rw [nth_take' (by omega)] at h2
      have h3 := h (o.length - 1 - 1) (by omega)
      rw [show o.length - 1 - 1 + 1 = o.length - 1 by omega, e.2, h2] at h3
      apply h3; omega
    rw [redPush_app hn]
    have h4 : o = o.take (o.length - 1) ++ [nth o (o.length - 1)] := by
      have h5 := List.take_append_drop (o.length - 1) o
      have h6 : o.drop (o.length - 1) = [nth o (o.length - 1)] := by
        rw [List.drop_eq_getElem_cons (by omega), List.drop_of_length_le (by omega)]
        simp [nth, show o.length - 1 < o.length by omega]
      rw [h6] at h5; exact h5.symm
    rw [e.2] at h4
    exact h4.symm
  · rw [redPush_app e]
    have hl : (o ++ [k]).length - 1 = o.length := by simp
    have hp : 0 < (o ++ [k]).length := by simp
    rw [redPush_pop hp (by rw [hl, nth_app_end]; omega), hl]
    simp
theorem fold_inv (l : List Int) {o : List Int} (h : Rdd o) : (l ++ invW l).foldl redPush o = o := by
  induction l generalizing o with
  | nil => rfl
  | cons k l ih =>
    have e : (k :: l) ++ invW (k :: l) = k :: ((l ++ invW l) ++ [-k]) := by simp [invW]
    rw [e, List.foldl_cons, List.foldl_append, ih (h.push k)]
    exact push_back h k
theorem red_inv (l : List Int) : redW (l ++ invW l) = [] := fold_inv l Rdd.nil
theorem redW_rdd (l : List Int) : Rdd (redW l) := by
  have : ∀ (l o : List Int), Rdd o → Rdd (l.foldl redPush o) := by
    intro l
    induction l with
    | nil => intro o h; exact h
    | cons k l ih => intro o h; exact ih _ (h.push k)
  exact this l [] Rdd.nil
theorem redW_fix {o : List Int} (h : Rdd o) : redW o = o := by
  have : ∀ k, k ≤ o.length → redW (o.take k) = o.take k := by
    intro k
    induction k with
    | zero => intro _; rfl
    | succ k ih =>
      intro hk
      rw [redW_take (by omega), ih (by omega), List.take_add_one, nth_of (by omega)]
      refine redPush_app ?_
      rintro ⟨h1, h2⟩
      rw [List.length_take] at h1 h2
      rw [nth_take' (by omega)] at h2
      have h3 := h (k - 1) (by omega)
      rw [show k - 1 + 1 = k by omega] at h3
      rw [show min k o.length - 1 = k - 1 by omega] at h2
      rw [h2] at h3
      apply h3; omega
  have := this o.length (Nat.le_refl _)
  rwa [List.take_of_length_le (Nat.le_refl _)] at this
theorem red_red (l : List Int) : redW (redW l) = redW l := redW_fix (redW_rdd l)
theorem redW_len (l : List Int) : (redW l).length ≤ l.length := by
  have := length_redW l l.length
  rwa [List.take_of_length_le (Nat.le_refl _)] at this
theorem redPush_mem {o : List Int} {k x : Int} (h : x ∈ redPush o k) : x ∈ o ∨ x = k := by
  unfold redPush at h
  split at h
  · exact .inl (List.mem_of_mem_take h)
  · rcases List.mem_append.1 h with h | h
    · exact .inl h
    · exact .inr (by simpa using h)
theorem redW_mem {l : List Int} {x : Int} (h : x ∈ redW l) : x ∈ l := by
  have : ∀ (l o : List Int), x ∈ l.foldl redPush o → x ∈ o ∨ x ∈ l := by
    intro l
    induction l with
    | nil => intro o h; exact .inl h
    | cons k l ih =>
      intro o h
      rcases ih _ h with h | h
      · rcases redPush_mem h with h | h
        · exact .inl h
        · exact .inr (by simp [h])
      · exact .inr (by simp [h])
  rcases this l [] h with h | h
  · simp at h
  · exact h

/-! sums of signs -/
theorem expTo_app_lt (l m : List Int) {k : Nat} (hk : k ≤ l.length) : expTo (l ++ m) k = expTo l k := by
  unfold expTo
  refine sumTo_congr fun i hi => ?_
  have e : nth (l ++ m) i = nth l i := by simp [nth, List.getElem?_append_left (show i < l.length by omega)]
  rw [e]
theorem expTo_app (l m : List Int) (k : Nat) : expTo (l ++ m) (l.length + k) = expTo l l.length + expTo m k := by
  induction k with
  | zero => rw [Nat.add_zero, expTo_app_lt l m (Nat.le_refl _)]; simp [expTo, sumTo]
  | succ k ih =>
    have e : nth (l ++ m) (l.length + k) = nth m k := by simp [nth, List.getElem?_append_right]
    rw [← Nat.add_assoc]
    unfold expTo at *
    rw [sumTo_succ, ih, sumTo_succ, e]
    omega

/-! letters seen from the other side -/
theorem mir_mir {n k : Int} (_h0 : k ≠ 0) (h1 : 1 - n ≤ k) (h2 : k ≤ n - 1) : mirL n (mirL n k) = k := by
  unfold mirL
  split
  · rw [if_pos (by omega)]; omega
  · rw [if_neg (by omega)]; omega
theorem mir_rng {n k : Int} (h0 : k ≠ 0) (h1 : 1 - n ≤ k) (h2 : k ≤ n - 1) : mirL n k ≠ 0 ∧ 1 - n ≤ mirL n k ∧ mirL n k ≤ n - 1 := by
  unfold mirL
  split <;> omega

/-! permutations of joined words -/
theorem invTo_nth {p : List Int} (hp : IsPerm p) {k : Nat} (hk : k ≤ p.length) : ∀ j, j < k → nth (invTo p k) (nth p j).toNat = j := by
  induction k with
  | zero => intro j hj; omega
  | succ k ih =>
    intro j hj
    have h0 := hp.lo (i := k) (by omega)
    have h1 := hp.hi (i := k) (by omega)
    have h2 := hp.lo (i := j) (by omega)
    rw [invTo, nth_set' (by rw [length_invTo]; omega)]
    by_cases e : k = j
    · subst e; simp
    · have := hp.ne (i := k) (j := j) (by omega) (by omega) e
      rw [if_neg (by omega)]
      exact ih (by omega) j (by omega)
theorem invF_nth {p : List Int} (hp : IsPerm p) {j : Nat} (hj : j < p.length) : nth (invF p) (nth p j).toNat = j := invTo_nth hp (Nat.le_refl _) j hj
theorem perm_onto {p : List Int} (hp : IsPerm p) {i : Nat} (hi : i < p.length) : ∃ j, j < p.length ∧ nth p j = i := by
  obtain ⟨j, hj, e⟩ := surj_of_inj p.length (fun j => (nth p j).toNat) (fun j hj => by have := hp.hi hj; have := hp.lo hj; show (nth p j).toNat < _; omega) (fun a b ha hb e => by
    rcases Nat.decEq a b with h | h
    · exfalso
      have h1 := hp.ne ha hb h
      have h2 := hp.lo ha
      have h3 := hp.lo hb
      have e' : (nth p a).toNat = (nth p b).toNat := e
      omega
    · exact h) i hi
  have := hp.lo hj
  have e' : (nth p j).toNat = i := e
  exact ⟨j, hj, by omega⟩
theorem idn_perm (n : Nat) : IsPerm (idn n) := by
  intro i hi
  rw [length_idn] at hi
  rw [nth_idn hi, length_idn]
  refine ⟨by omega, by omega, fun j hj => ?_⟩
  rw [nth_idn (by omega)]; omega
theorem exch_append (l u v : List Int) : exch l (u ++ v) = exch (exch l u) v := by unfold exch; rw [List.foldl_append]
theorem exchL_append (u v : List Int) : exchL (u ++ v) = exchL u ++ exchL v := by simp [exchL]
theorem exchL_rng {n : Nat} {l : List Int} (hl : ∀ k, k < l.length → nth l k ≠ 0 ∧ 1 - (n : Int) ≤ nth l k ∧ nth l k ≤ n - 1) : ∀ x ∈ exchL l, x.toNat + 1 < n := by
  intro x hx
  unfold exchL at hx
  rw [List.mem_map] at hx
  obtain ⟨k, hk, rfl⟩ := hx
  obtain ⟨i, hi, rfl⟩ := List.getElem_of_mem hk
  have h := hl i hi
  have e : nth l i = l[i] := by simp [nth, hi]
  rw [e] at h
  unfold absI
  split <;> omega
/-- what the program's three permutations are to one another -/
theorem perm_join {n : Nat} {l m : List Int} (h1 : okB (n : Int) l = true) (h2 : okB (n : Int) m = true) (h3 : okB (n : Int) (l ++ m) = true) :
    (∀ i, i < n → 0 ≤ nth (permB n l) i ∧ nth (permB n l) i < n) ∧ ∀ i, i < n → nth (permB n (l ++ m)) i = nth (permB n m) (nth (permB n l) i).toNat := by
  obtain ⟨-, -, -, r1⟩ := okB_of h1
  obtain ⟨-, -, -, r2⟩ := okB_of h2
  have x1 := exchL_rng r1
  have x2 := exchL_rng r2
  have p1 : IsPerm (exch (idn n) (exchL l)) := exch_isPerm _ (idn_perm n) (by rw [length_idn]; exact x1)
  have p2 : IsPerm (exch (idn n) (exchL m)) := exch_isPerm _ (idn_perm n) (by rw [length_idn]; exact x2)
  have l1 : (exch (idn n) (exchL l)).length = n := by simp
  have l2 : (exch (idn n) (exchL m)).length = n := by simp
  have hE : exch (idn n) (exchL (l ++ m)) = (exch (idn n) (exchL m)).map (fun x => nth (exch (idn n) (exchL l)) x.toNat) := by
    rw [exchL_append, exch_append]
    have := exch_map (fun x => nth (exch (idn n) (exchL l)) x.toNat) (exchL m) (L := idn n) (by rw [length_idn]; exact x2)
    rw [← this]
    congr 1
    have := as_map (exch (idn n) (exchL l))
    rw [l1] at this
    exact this.symm
  have p3 : IsPerm (exch (idn n) (exchL (l ++ m))) := by
    obtain ⟨-, -, -, r3⟩ := okB_of h3
    exact exch_isPerm _ (idn_perm n) (by rw [length_idn]; exact exchL_rng r3)
  have l3 : (exch (idn n) (exchL (l ++ m))).length = n := by simp
  unfold permB
  rw [h1, h2, h3, if_pos rfl, if_pos rfl, if_pos rfl, Int.toNat_natCast]
  unfold wordF
  rw [hE] at p3 l3 ⊢
  generalize exch (idn n) (exchL l) = A at *
  generalize exch (idn n) (exchL m) = B at *
  constructor
  · intro i hi
    obtain ⟨j, hj, e⟩ := perm_onto p1 (i := i) (by omega)
    have h4 := invF_nth p1 hj
    rw [e, Int.toNat_natCast] at h4
    rw [h4]; omega
  · intro i hi
    obtain ⟨j, hj, e⟩ := perm_onto p3 (i := i) (by omega)
    rw [l3] at hj
    have h4 := invF_nth p3 (j := j) (by omega)
    rw [e, Int.toNat_natCast] at h4
    rw [h4]
    rw [nth_map _ (by omega)] at e
    have b0 := p2.lo (i := j) (by omega)
    have b1 := p2.hi (i := j) (by omega)
    have h5 := invF_nth p1 (j := (nth B j).toNat) (by omega)
    rw [e, Int.toNat_natCast] at h5
    rw [h5, Int.toNat_natCast]
    exact (invF_nth p2 (by omega)).symm

end Go.Proofs.YtkgdbobhppmaiaaDoor
