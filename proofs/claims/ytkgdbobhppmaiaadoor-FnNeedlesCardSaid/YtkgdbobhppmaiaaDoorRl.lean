/- The relations of braids: exchange of far letters, the braid relation, cancelling; they keep the normal form, also with doubled strands. Plain. -/
import Derived.Test.YtkgdbobhppmaiaaDoorDb
namespace Go.Proofs.YtkgdbobhppmaiaaDoor
open Pm

theorem dl_at {P Q : List Nat} {a b : Nat} {k : Nat} (hk : k = P.length + 1) : dl (P ++ a :: b :: Q) (k : Int) = bl P.sum a b := by
  rw [dl_mid P Q a b (k : Int) (by omega), sign_pos (by omega), map_one_mul]
theorem sw_at {P Q : List Nat} {a b : Nat} {k : Nat} (hk : k = P.length + 1) : swN (P ++ a :: b :: Q) ((k : Int).natAbs - 1) = P ++ b :: a :: Q := by
  rw [show (k : Int).natAbs - 1 = P.length by omega, swN_mid]
theorem lv_nat {n k : Nat} (h0 : 0 < k) (h : k < n) : Lv n (k : Int) := ⟨by omega, by omega⟩

theorem De.comm_pos {n i j : Nat} (hi : 0 < i) (hij : i + 2 ≤ j) (hj : j < n) : De n [(i : Int), (j : Int)] [(j : Int), (i : Int)] := by
  intro s hs
  obtain ⟨P, a, b, R, rfl, e⟩ := split_at hs (lv_nat hi (show i < n by omega))
  obtain ⟨Q, c, d, T, hR, e2⟩ := split_at (s := R) (n := R.length) rfl (k := ((j - i - 1 : Nat) : Int)) ⟨by omega, by simp at hs; omega⟩
  subst hR
  have e : i = P.length + 1 := by omega
  have e2 : j = P.length + 2 + Q.length + 1 := by omega
  have s1 : P ++ b :: a :: (Q ++ c :: d :: T) = (P ++ b :: a :: Q) ++ c :: d :: T := by simp
  have s2 : P ++ a :: b :: (Q ++ c :: d :: T) = (P ++ a :: b :: Q) ++ c :: d :: T := by simp
  have s3 : P ++ a :: b :: (Q ++ d :: c :: T) = (P ++ a :: b :: Q) ++ d :: c :: T := by simp
  have l1 : j = (P ++ b :: a :: Q).length + 1 := by simp; omega
  have l2 : j = (P ++ a :: b :: Q).length + 1 := by simp; omega
  have d1 : dw [(i : Int), (j : Int)] (P ++ a :: b :: (Q ++ c :: d :: T)) = bl P.sum a b ++ bl (P ++ b :: a :: Q).sum c d := by
    rw [dw, dw, dw, dl_at e, sw_at e, s1, dl_at l1, List.append_nil]
  have d2 : dw [(j : Int), (i : Int)] (P ++ a :: b :: (Q ++ c :: d :: T)) = bl (P ++ a :: b :: Q).sum c d ++ bl P.sum a b := by
    rw [dw, dw, dw, s2, dl_at l2, sw_at l2, ← s3, dl_at e, List.append_nil]
  have a1 : aft [(i : Int), (j : Int)] (P ++ a :: b :: (Q ++ c :: d :: T)) = (P ++ b :: a :: Q) ++ d :: c :: T := by
    show swN (swN _ _) _ = _
    rw [sw_at e, s1, sw_at l1]
  have a2 : aft [(j : Int), (i : Int)] (P ++ a :: b :: (Q ++ c :: d :: T)) = (P ++ b :: a :: Q) ++ d :: c :: T := by
    show swN (swN _ _) _ = _
    rw [s2, sw_at l2, ← s3, sw_at e]; simp
  rw [d1, d2, a1, a2]
  refine ⟨rfl, ?_⟩
  obtain ⟨L, hL, hf⟩ := idn_split (P ++ a :: b :: (Q ++ c :: d :: T)).sum (p := [P.sum, a, b, Q.sum, c, d, T.sum]) (by simp [List.sum_append])
  obtain ⟨X, A, B, Z, C, D, Y, rfl⟩ := len7 (by have := congrArg List.length hL; simpa using this)
  · simp only [List.map_cons, List.map_nil, List.cons.injEq, and_true] at hL
    obtain ⟨hX, hA, hB, hZ, hC, hD, hY⟩ := hL
    have hf' : idn (P ++ a :: b :: (Q ++ c :: d :: T)).sum = X ++ (A ++ (B ++ (Z ++ (C ++ (D ++ Y))))) := by rw [← hf]; simp
    have hs := idn_sorted (P ++ a :: b :: (Q ++ c :: d :: T)).sum
    rw [hf', List.pairwise_append] at hs
    have p1 := hs.2.1
    rw [List.pairwise_append] at p1
    have p2 := p1.2.1
    rw [List.pairwise_append] at p2
    have p3 := p2.2.1
    rw [List.pairwise_append] at p3
    have p4 := p3.2.1
    rw [List.pairwise_append] at p4
    have hab : ∀ x ∈ A, ∀ y ∈ B, x < y := fun x hx y hy => p1.2.2 x hx y (by simp [hy])
    have hcd : ∀ x ∈ C, ∀ y ∈ D, x < y := fun x hx y hy => p4.2.2 x hx y (by simp [hy])
    have n1 : (P ++ b :: a :: Q).sum = (X ++ B ++ A ++ Z).length := by simp [List.sum_append]; omega
    have n2 : (P ++ a :: b :: Q).sum = (X ++ A ++ B ++ Z).length := by simp [List.sum_append]; omega
    rw [n1, n2, ← hX, ← hA, ← hB, ← hC, ← hD]
    have q1 := bl_asc (· < ·) X A B (Z ++ C ++ D ++ Y) hab
    have r1 := bl_run X A B (Z ++ C ++ D ++ Y)
    have q2 := bl_asc (· < ·) (X ++ B ++ A ++ Z) C D Y hcd
    have r2 := bl_run (X ++ B ++ A ++ Z) C D Y
    have q3 := bl_asc (· < ·) (X ++ A ++ B ++ Z) C D Y hcd
    have r3 := bl_run (X ++ A ++ B ++ Z) C D Y
    have q4 := bl_asc (· < ·) X A B (Z ++ D ++ C ++ Y) hab
    have r4 := bl_run X A B (Z ++ D ++ C ++ Y)
    rw [← hA, ← hB, ← hC, ← hD] at hf'
    simp only [List.append_assoc] at hf' q1 r1 q2 r2 q3 r3 q4 r4 ⊢
    refine asc_wq ?_ ?_ ?_ ?_ ?_
    · rw [hf', asc_append, r1]; exact ⟨q1, q2⟩
    · rw [hf', asc_append, r3]; exact ⟨q3, q4⟩
    · rw [hf', run_append, run_append, r1, r2, r3, r4]
    · intro k hk
      rcases List.mem_append.1 hk with h | h <;> exact bl_pos _ _ _ k h
    · intro k hk
      rcases List.mem_append.1 hk with h | h <;> exact bl_pos _ _ _ k h

theorem De.braid_pos {n i : Nat} (hi : 0 < i) (hj : i + 1 < n) : De n [(i : Int), ((i + 1 : Nat) : Int), (i : Int)] [((i + 1 : Nat) : Int), (i : Int), ((i + 1 : Nat) : Int)] := by
  intro s hs
  obtain ⟨P, a, b, R, rfl, e⟩ := split_at hs (lv_nat hi (show i < n by omega))
  have e : i = P.length + 1 := by omega
  match R with
  | [] => simp at hs; omega
  | c :: T =>
    have sh : ∀ x y z : Nat, P ++ x :: y :: z :: T = (P ++ [x]) ++ y :: z :: T := by intros; simp
    have l1 : ∀ x : Nat, i + 1 = (P ++ [x]).length + 1 := by intro x; simp; omega
    have d1 : dw [(i : Int), ((i + 1 : Nat) : Int), (i : Int)] (P ++ a :: b :: c :: T) = bl P.sum a b ++ (bl (P ++ [b]).sum a c ++ bl P.sum b c) := by
      rw [dw, dw, dw, dw, dl_at e, sw_at e, sh b a c, dl_at (l1 b), sw_at (l1 b), ← sh b c a, dl_at e, List.append_nil]
    have d2 : dw [((i + 1 : Nat) : Int), (i : Int), ((i + 1 : Nat) : Int)] (P ++ a :: b :: c :: T) = bl (P ++ [a]).sum b c ++ (bl P.sum a c ++ bl (P ++ [c]).sum a b) := by
      rw [dw, dw, dw, dw, sh a b c, dl_at (l1 a), sw_at (l1 a), ← sh a c b, dl_at e, sw_at e, sh c a b, dl_at (l1 c), List.append_nil]
    have a1 : aft [(i : Int), ((i + 1 : Nat) : Int), (i : Int)] (P ++ a :: b :: c :: T) = P ++ c :: b :: a :: T := by
      show swN (swN (swN _ _) _) _ = _
      rw [sw_at e, sh b a c, sw_at (l1 b), ← sh b c a, sw_at e]
    have a2 : aft [((i + 1 : Nat) : Int), (i : Int), ((i + 1 : Nat) : Int)] (P ++ a :: b :: c :: T) = P ++ c :: b :: a :: T := by
      show swN (swN (swN _ _) _) _ = _
      rw [sh a b c, sw_at (l1 a), ← sh a c b, sw_at e, sh c a b, sw_at (l1 c), ← sh c b a]
    rw [d1, d2, a1, a2]
    refine ⟨rfl, ?_⟩
    obtain ⟨L, hL, hf⟩ := idn_split (P ++ a :: b :: c :: T).sum (p := [P.sum, a, b, c, T.sum]) (by simp [List.sum_append])
    obtain ⟨X, A, B, C, Y, rfl⟩ := len5 (by have := congrArg List.length hL; simpa using this)
    · simp only [List.map_cons, List.map_nil, List.cons.injEq, and_true] at hL
      obtain ⟨hX, hA, hB, hC, hY⟩ := hL
      have hf' : idn (P ++ a :: b :: c :: T).sum = X ++ (A ++ (B ++ (C ++ Y))) := by rw [← hf]; simp
      have hs := idn_sorted (P ++ a :: b :: c :: T).sum
      rw [hf', List.pairwise_append] at hs
      have p1 := hs.2.1
      rw [List.pairwise_append] at p1
      have p2 := p1.2.1
      rw [List.pairwise_append] at p2
      have hab : ∀ x ∈ A, ∀ y ∈ B, x < y := fun x hx y hy => p1.2.2 x hx y (by simp [hy])
      have hac : ∀ x ∈ A, ∀ y ∈ C, x < y := fun x hx y hy => p1.2.2 x hx y (by simp [hy])
      have hbc : ∀ x ∈ B, ∀ y ∈ C, x < y := fun x hx y hy => p2.2.2 x hx y (by simp [hy])
      have n1 : (P ++ [b]).sum = (X ++ B).length := by simp [List.sum_append]; omega
      have n2 : (P ++ [a]).sum = (X ++ A).length := by simp [List.sum_append]; omega
      have n3 : (P ++ [c]).sum = (X ++ C).length := by simp [List.sum_append]; omega
      rw [n1, n2, n3, ← hX, ← hA, ← hB, ← hC]
      have q1 := bl_asc (· < ·) X A B (C ++ Y) hab
      have r1 := bl_run X A B (C ++ Y)
      have q2 := bl_asc (· < ·) (X ++ B) A C Y hac
      have r2 := bl_run (X ++ B) A C Y
      have q3 := bl_asc (· < ·) X B C (A ++ Y) hbc
      have r3 := bl_run X B C (A ++ Y)
      have q4 := bl_asc (· < ·) (X ++ A) B C Y hbc
      have r4 := bl_run (X ++ A) B C Y
      have q5 := bl_asc (· < ·) X A C (B ++ Y) hac
      have r5 := bl_run X A C (B ++ Y)
      have q6 := bl_asc (· < ·) (X ++ C) A B Y hab
      have r6 := bl_run (X ++ C) A B Y
      rw [← hA, ← hB, ← hC] at hf'
      simp only [List.append_assoc] at hf' q1 r1 q2 r2 q3 r3 q4 r4 q5 r5 q6 r6 ⊢
      refine asc_wq ?_ ?_ ?_ ?_ ?_
      · rw [hf', asc_append, asc_append, r1, r2]; exact ⟨q1, q2, q3⟩
      · rw [hf', asc_append, asc_append, r4, r5]; exact ⟨q4, q5, q6⟩
      · rw [hf', run_append, run_append, run_append, run_append, r1, r2, r3, r4, r5, r6]
      · intro k hk
        rcases List.mem_append.1 hk with h | h
        · exact bl_pos _ _ _ k h
        · rcases List.mem_append.1 h with h | h <;> exact bl_pos _ _ _ k h
      · intro k hk
        rcases List.mem_append.1 hk with h | h
        · exact bl_pos _ _ _ k h
        · rcases List.mem_append.1 h with h | h <;> exact bl_pos _ _ _ k h

/-- far positive letters in either order -/
theorem De.comm_pp {n : Nat} {x y : Int} (hx : Lv n x) (hy : Lv n y) (px : 0 < x) (py : 0 < y) (h : x + 2 ≤ y ∨ y + 2 ≤ x) : De n [x, y] [y, x] := by
  obtain ⟨i, rfl⟩ : ∃ i : Nat, x = i := ⟨x.toNat, by omega⟩
  obtain ⟨j, rfl⟩ : ∃ j : Nat, y = j := ⟨y.toNat, by omega⟩
  have h1 := hx.2
  have h2 := hy.2
  rcases h with h | h
  · exact De.comm_pos (by omega) (by omega) (by omega)
  · exact (De.comm_pos (by omega) (by omega) (by omega)).symm
theorem De.comm_pn {n : Nat} {x y : Int} (hx : Lv n x) (hy : Lv n y) (px : 0 < x) (py : 0 < y) (h : x + 2 ≤ y ∨ y + 2 ≤ x) : De n [x, -y] [-y, x] := by
  have c := De.comm_pp hx hy px py h
  have lx : ∀ k ∈ [x], Lv n k := by simpa using hx
  have ly : ∀ k ∈ [y], Lv n k := by simpa using hy
  have ln : ∀ k ∈ [-y], Lv n k := by simpa using hy.neg
  -- -y x ~ -y x y -y ~ -y y x -y ~ x -y
  have a1 : De n ([-y] ++ ([x] ++ [y, -y])) ([-y] ++ ([x] ++ [])) := De.app ln (De.refl n _) (De.app lx (De.refl n _) (De.cancel hy))
  have lxy : ∀ k ∈ [x, y], Lv n k := by
    intro k hk
    rcases List.mem_cons.1 hk with rfl | hk
    · exact hx
    · obtain rfl : k = y := by simpa using hk
      exact hy
  have a2 : De n ([-y] ++ ([x, y] ++ [-y])) ([-y] ++ ([y, x] ++ [-y])) := De.app ln (De.refl n _) (De.app lxy c (De.refl n _))
  have a3 : De n ([-y, y] ++ ([x] ++ [-y])) ([] ++ ([x] ++ [-y])) := by
    refine De.app ?_ ?_ (De.refl n _)
    · intro k hk
      rcases List.mem_cons.1 hk with rfl | hk
      · exact hy.neg
      · obtain rfl : k = y := by simpa using hk
        exact hy
    · have := De.cancel hy.neg
      rwa [Int.neg_neg] at this
  exact (a1.symm.trans (a2.trans a3)).symm
theorem De.comm {n : Nat} {x y : Int} (hx : Lv n x) (hy : Lv n y) (h : x.natAbs + 2 ≤ y.natAbs ∨ y.natAbs + 2 ≤ x.natAbs) : De n [x, y] [y, x] := by
  have x0 := hx.1
  have y0 := hy.1
  rcases Int.lt_or_gt_of_ne x0 with px | px <;> rcases Int.lt_or_gt_of_ne y0 with py | py
  · have c := De.comm_pp hy.neg hx.neg (by omega) (by omega) (by omega)
    have := De.inv (w := [-y, -x]) (w' := [-x, -y]) (by
      intro k hk
      rcases List.mem_cons.1 hk with rfl | hk
      · exact hy.neg
      · obtain rfl : k = -x := by simpa using hk
        exact hx.neg) (by
      intro k hk
      rcases List.mem_cons.1 hk with rfl | hk
      · exact hx.neg
      · obtain rfl : k = -y := by simpa using hk
        exact hy.neg) c
    simpa [invI] using this
  · have := De.comm_pn hy hx.neg py (by omega) (by omega)
    rw [Int.neg_neg] at this
    exact this.symm
  · have := De.comm_pn hx hy.neg px (by omega) (by omega)
    rwa [Int.neg_neg] at this
  · exact De.comm_pp hx hy px py (by omega)
theorem De.braid_pp {n : Nat} {x y : Int} (hx : Lv n x) (hy : Lv n y) (px : 0 < x) (py : 0 < y) (h : x + 1 = y ∨ y + 1 = x) : De n [x, y, x] [y, x, y] := by
  obtain ⟨i, rfl⟩ : ∃ i : Nat, x = i := ⟨x.toNat, by omega⟩
  obtain ⟨j, rfl⟩ : ∃ j : Nat, y = j := ⟨y.toNat, by omega⟩
  have h1 := hx.2
  have h2 := hy.2
  rcases h with h | h
  · obtain rfl : j = i + 1 := by omega
    exact De.braid_pos (by omega) (by omega)
  · obtain rfl : i = j + 1 := by omega
    exact (De.braid_pos (by omega) (by omega)).symm
theorem De.braid {n : Nat} {x y : Int} (hx : Lv n x) (hy : Lv n y) (hs : 0 < x * y) (h : x + 1 = y ∨ y + 1 = x) : De n [x, y, x] [y, x, y] := by
  have x0 := hx.1
  rcases Int.lt_or_gt_of_ne x0 with px | px
  · have py : y < 0 := by
      rcases Int.lt_or_le y 0 with h1 | h1
      · exact h1
      · have := Int.mul_nonpos_of_nonpos_of_nonneg (Int.le_of_lt px) h1; omega
    have c := De.braid_pp hx.neg hy.neg (by omega) (by omega) (by omega)
    have l1 : ∀ k ∈ [-x, -y, -x], Lv n k := by
      intro k hk; simp at hk; rcases hk with rfl | rfl | rfl
      · exact hx.neg
      · exact hy.neg
      · exact hx.neg
    have l2 : ∀ k ∈ [-y, -x, -y], Lv n k := by
      intro k hk; simp at hk; rcases hk with rfl | rfl | rfl
      · exact hy.neg
      · exact hx.neg
      · exact hy.neg
    have := De.inv l1 l2 c
    simpa [invI] using this
  · have py : 0 < y := by
      rcases Int.lt_or_le 0 y with h1 | h1
      · exact h1
      · have := Int.mul_nonpos_of_nonneg_of_nonpos (Int.le_of_lt px) h1; omega
    exact De.braid_pp hx hy px py h

/-- one relation -/
inductive Rel1 (n : Nat) : List Int → List Int → Prop
  | cancel (u v : List Int) (x : Int) (h : Lv n x) : Rel1 n (u ++ v) (u ++ [x, -x] ++ v)
  | comm (u v : List Int) (x y : Int) (h : x.natAbs + 2 ≤ y.natAbs ∨ y.natAbs + 2 ≤ x.natAbs) : Rel1 n (u ++ [x, y] ++ v) (u ++ [y, x] ++ v)
  | braid (u v : List Int) (x y : Int) (hs : 0 < x * y) (h : x + 1 = y ∨ y + 1 = x) : Rel1 n (u ++ [x, y, x] ++ v) (u ++ [y, x, y] ++ v)
theorem Rel1.lv {n : Nat} {w w' : List Int} (h : Rel1 n w w') (hw : ∀ k ∈ w, Lv n k) : ∀ k ∈ w', Lv n k := by
  cases h with
  | cancel u v x hx =>
    intro k hk
    simp only [List.mem_append, List.mem_cons, List.not_mem_nil, or_false] at hk
    rcases hk with (hk | rfl | rfl) | hk
    · exact hw k (by simp [hk])
    · exact hx
    · exact hx.neg
    · exact hw k (by simp [hk])
  | comm u v x y _ =>
    intro k hk
    apply hw k
    simp only [List.mem_append, List.mem_cons, List.not_mem_nil, or_false] at hk ⊢
    rcases hk with (hk | rfl | rfl) | hk <;> simp [*]
  | braid u v x y _ _ =>
    intro k hk
    apply hw k
    simp only [List.mem_append, List.mem_cons, List.not_mem_nil, or_false] at hk ⊢
    rcases hk with (hk | rfl | rfl | rfl) | hk <;> simp [*]
theorem Rel1.de {n : Nat} {w w' : List Int} (h : Rel1 n w w') (hw : ∀ k ∈ w, Lv n k) : De n w w' := by
  cases h with
  | cancel u v x hx =>
    have h1 : De n (u ++ ([x, -x] ++ v)) (u ++ ([] ++ v)) := De.app (fun k hk => hw k (by simp [hk])) (De.refl n _) (De.app (by
      intro k hk
      rcases List.mem_cons.1 hk with rfl | hk
      · exact hx
      · obtain rfl : k = -x := by simpa using hk
        exact hx.neg) (De.cancel hx) (De.refl n _))
    have := h1.symm
    simpa using this
  | comm u v x y hh =>
    have hx : Lv n x := hw x (by simp)
    have hy : Lv n y := hw y (by simp)
    have h1 : De n (u ++ ([x, y] ++ v)) (u ++ ([y, x] ++ v)) := De.app (fun k hk => hw k (by simp [hk])) (De.refl n _) (De.app (by
      intro k hk
      exact hw k (by simp at hk ⊢; rcases hk with rfl | rfl <;> simp)) (De.comm hx hy hh) (De.refl n _))
    simpa using h1
  | braid u v x y hs hh =>
    have hx : Lv n x := hw x (by simp)
    have hy : Lv n y := hw y (by simp)
    have h1 : De n (u ++ ([x, y, x] ++ v)) (u ++ ([y, x, y] ++ v)) := De.app (fun k hk => hw k (by simp [hk])) (De.refl n _) (De.app (by
      intro k hk
      exact hw k (by simp at hk ⊢; rcases hk with rfl | rfl | rfl <;> simp)) (De.braid hx hy hs hh) (De.refl n _))
    simpa using h1
/-- any number of relations -/
inductive Rels (n : Nat) : List Int → List Int → Prop
  | refl (w : List Int) : Rels n w w
  | step {u v w : List Int} (h : Rels n u v) (k : Rel1 n v w) : Rels n u w
theorem Rels.trans {n : Nat} {u v w : List Int} (h : Rels n u v) (k : Rels n v w) : Rels n u w := by
  induction k with
  | refl => exact h
  | step _ k ih => exact .step ih k
theorem Rels.lv {n : Nat} {w w' : List Int} (h : Rels n w w') (hw : ∀ k ∈ w, Lv n k) : ∀ k ∈ w', Lv n k := by
  induction h with
  | refl => exact hw
  | step _ k ih => exact k.lv ih
theorem Rels.de {n : Nat} {w w' : List Int} (h : Rels n w w') (hw : ∀ k ∈ w, Lv n k) : De n w w' := by
  induction h with
  | refl => exact De.refl n _
  | step h k ih => exact ih.trans (k.de (h.lv hw))

/-- single strands: the word itself -/
theorem dw_ones {n : Nat} (w : List Int) (hw : ∀ k ∈ w, Lv n k) : dw w (List.replicate n 1) = w := by
  induction w with
  | nil => rfl
  | cons k w ih =>
    have hk := hw k (by simp)
    obtain ⟨P, a, b, Q, hs, e⟩ := split_at (s := List.replicate n 1) (by simp) hk
    have ha : ∀ x ∈ P ++ a :: b :: Q, x = 1 := by rw [← hs]; intro x hx; exact (List.mem_replicate.1 hx).2
    have h1 : a = 1 := ha a (by simp)
    have h2 : b = 1 := ha b (by simp)
    have hP : P = List.replicate P.length 1 := List.eq_replicate_iff.2 ⟨rfl, fun x hx => ha x (by simp [hx])⟩
    subst h1 h2
    have e1 : dl (List.replicate n 1) k = [k] := by
      rw [hs, dl_mid P Q 1 1 k e]
      have : P.sum = P.length := by rw [hP]; simp
      rw [this]
      simp only [bl, rowL, List.append_nil, List.map_cons, List.map_nil]
      congr 1
      rcases Int.lt_or_gt_of_ne hk.1 with h | h
      · rw [sign_neg h]; omega
      · rw [sign_pos h]; omega
    have e2 : swN (List.replicate n 1) (k.natAbs - 1) = List.replicate n 1 := by
      rw [hs, show k.natAbs - 1 = P.length by omega, swN_mid]
    rw [dw, e1, e2, ih fun x hx => hw x (by simp [hx])]; rfl
/-- relations keep the normal form -/
theorem Rels.nfW {n : Nat} {w w' : List Int} (h : Rels n w w') (hw : ∀ k ∈ w, Lv n k) : nfW n w = nfW n w' := by
  have h1 := (h.de hw (List.replicate n 1) (by simp)).2
  rw [dw_ones w hw, dw_ones w' (h.lv hw)] at h1
  have e : (List.replicate n 1).sum = n := by simp
  rw [e] at h1
  exact Gar.Wq.raw _ h1

end Go.Proofs.YtkgdbobhppmaiaaDoor
