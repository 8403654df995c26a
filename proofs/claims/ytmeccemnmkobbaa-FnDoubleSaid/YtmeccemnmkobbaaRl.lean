/- The relations of braids: exchange of far letters, the braid relation, cancelling; they keep the normal form, also with doubled strands. Plain. -/
import Derived.Test.YtmeccemnmkobbaaPn
namespace Go.Proofs.Ytmeccemnmkobbaa
open Pm

/-! blocks of strands that pass one another -/
/-- one strand from the right over a block of a strands behind f -/
def rowL (f : Nat) : Nat → List Int
  | 0 => []
  | a + 1 => ((f + a + 1 : Nat) : Int) :: rowL f a
/-- a block of a strands over a block of b -/
def bl (f a : Nat) : Nat → List Int
  | 0 => []
  | b + 1 => rowL f a ++ bl (f + 1) a b
theorem rowL_pos (f a : Nat) : ∀ k ∈ rowL f a, 0 < k := by
  induction a with
  | zero => simp [rowL]
  | succ a ih => intro k hk; rcases List.mem_cons.1 hk with rfl | h; omega; exact ih k h
theorem bl_pos (f a b : Nat) : ∀ k ∈ bl f a b, 0 < k := by
  induction b generalizing f with
  | zero => simp [bl]
  | succ b ih => intro k hk; rcases List.mem_append.1 hk with h | h; exact rowL_pos f a k h; exact ih _ k h
theorem bl_zero (f b : Nat) : bl f 0 b = [] := by
  induction b generalizing f with
  | zero => rfl
  | succ b ih => rw [bl, ih]; rfl
/-- things after the exchanges of positive letters -/
def run (l w : List Int) : List Int := w.foldl (fun l k => swapAt l (k.toNat - 1)) l
theorem run_append (l u v : List Int) : run l (u ++ v) = run (run l u) v := by unfold run; rw [List.foldl_append]
/-- at every exchange the two things stand in the relation R -/
def Asc (R : Int → Int → Prop) : List Int → List Int → Prop
  | [], _ => True
  | k :: w, l => (0 < k ∧ k.toNat < l.length ∧ R (nth l (k.toNat - 1)) (nth l k.toNat)) ∧ Asc R w (swapAt l (k.toNat - 1))
theorem asc_append (R : Int → Int → Prop) (u v l : List Int) : Asc R (u ++ v) l ↔ Asc R u l ∧ Asc R v (run l u) := by
  induction u generalizing l with
  | nil => simp [Asc, run]
  | cons k u ih =>
    simp only [List.cons_append, Asc]
    rw [ih]
    exact ⟨fun ⟨a, b, c⟩ => ⟨⟨a, b⟩, c⟩, fun ⟨⟨a, b⟩, c⟩ => ⟨a, b, c⟩⟩
theorem nth_mid (X Y : List Int) (x : Int) : nth (X ++ x :: Y) X.length = x := by simp [nth]
theorem nth_mid2 (X Y : List Int) (x y : Int) : nth (X ++ x :: y :: Y) (X.length + 1) = y := by
  have := nth_mid (X ++ [x]) Y y
  simpa using this
theorem swap_mid (X Y : List Int) (x y : Int) : swapAt (X ++ x :: y :: Y) X.length = X ++ y :: x :: Y := by
  unfold swapAt
  rw [nth_mid, nth_mid2, List.set_append_right _ _ (Nat.le_refl _), Nat.sub_self, List.set_cons_zero, List.set_append_right _ _ (by omega)]
  simp
theorem row_run (X A Y : List Int) (b : Int) : run (X ++ A ++ b :: Y) (rowL X.length A.length) = X ++ b :: A ++ Y := by
  generalize hA : A.length = a
  induction a generalizing A Y with
  | zero =>
    have : A = [] := List.eq_nil_of_length_eq_zero hA
    subst this; simp [rowL, run]
  | succ a ih =>
    rcases List.eq_nil_or_concat A with h | ⟨A', z, h⟩
    · subst h; simp at hA
    · subst h
      have hA' : A'.length = a := by simpa using hA
      show run (swapAt (X ++ A'.concat z ++ b :: Y) _) (rowL X.length a) = _
      have e : X ++ A'.concat z ++ b :: Y = (X ++ A') ++ z :: b :: Y := by simp
      have e2 : ((X.length + a + 1 : Nat) : Int).toNat - 1 = (X ++ A').length := by simp; omega
      rw [e, e2, swap_mid]
      have := ih A' (z :: Y) hA'
      simp only [List.append_assoc] at this ⊢
      rw [this]; simp
theorem row_asc (R : Int → Int → Prop) (X A Y : List Int) (b : Int) (h : ∀ a ∈ A, R a b) : Asc R (rowL X.length A.length) (X ++ A ++ b :: Y) := by
  generalize hA : A.length = a
  induction a generalizing A Y with
  | zero => trivial
  | succ a ih =>
    rcases List.eq_nil_or_concat A with h' | ⟨A', z, h'⟩
    · subst h'; simp at hA
    · subst h'
      have hA' : A'.length = a := by simpa using hA
      have e : X ++ A'.concat z ++ b :: Y = (X ++ A') ++ z :: b :: Y := by simp
      have e2 : ((X.length + a + 1 : Nat) : Int).toNat - 1 = (X ++ A').length := by simp; omega
      have e3 : ((X.length + a + 1 : Nat) : Int).toNat = (X ++ A').length + 1 := by simp; omega
      rw [rowL, Asc, e, e2, e3, swap_mid, nth_mid, nth_mid2]
      refine ⟨⟨by omega, by simp; omega, h z (by simp)⟩, ?_⟩
      have := ih A' (z :: Y) (fun a ha => h a (by simp [ha])) hA'
      simpa using this
theorem bl_run (X A B Y : List Int) : run (X ++ A ++ B ++ Y) (bl X.length A.length B.length) = X ++ B ++ A ++ Y := by
  induction B generalizing X with
  | nil => simp [bl, run]
  | cons b B ih =>
    rw [List.length_cons, bl, run_append]
    have h1 := row_run X A (B ++ Y) b
    have e1 : X ++ A ++ b :: B ++ Y = X ++ A ++ b :: (B ++ Y) := by simp
    rw [e1, h1]
    have h2 := ih (X ++ [b])
    have e2 : (X ++ [b]).length = X.length + 1 := by simp
    rw [e2] at h2
    have e3 : X ++ b :: A ++ (B ++ Y) = X ++ [b] ++ A ++ B ++ Y := by simp
    rw [e3, h2]; simp
theorem bl_asc (R : Int → Int → Prop) (X A B Y : List Int) (h : ∀ a ∈ A, ∀ b ∈ B, R a b) : Asc R (bl X.length A.length B.length) (X ++ A ++ B ++ Y) := by
  induction B generalizing X with
  | nil => trivial
  | cons b B ih =>
    rw [List.length_cons, bl, asc_append]
    have e1 : X ++ A ++ b :: B ++ Y = X ++ A ++ b :: (B ++ Y) := by simp
    rw [e1]
    refine ⟨row_asc R X A (B ++ Y) b (fun a ha => h a ha b (by simp)), ?_⟩
    rw [row_run]
    have h2 := ih (X ++ [b]) (fun a ha c hc => h a ha c (by simp [hc]))
    have e2 : (X ++ [b]).length = X.length + 1 := by simp
    rw [e2] at h2
    have e3 : X ++ b :: A ++ (B ++ Y) = X ++ [b] ++ A ++ B ++ Y := by simp
    rw [e3]; exact h2
/-- backwards -/
theorem run_swap_back {l : List Int} {k : Int} (h0 : 0 < k) (h1 : k.toNat < l.length) : swapAt (swapAt l (k.toNat - 1)) (k.toNat - 1) = l := swapAt_swapAt (by omega)
theorem rev_asc (R : Int → Int → Prop) (w l : List Int) (h : Asc R w l) : Asc (fun x y => R y x) w.reverse (run l w) ∧ run (run l w) w.reverse = l := by
  induction w generalizing l with
  | nil => exact ⟨trivial, rfl⟩
  | cons k w ih =>
    obtain ⟨⟨h0, h1, h2⟩, h3⟩ := h
    obtain ⟨a, b⟩ := ih _ h3
    have e : run l (k :: w) = run (swapAt l (k.toNat - 1)) w := rfl
    rw [List.reverse_cons, e]
    refine ⟨?_, ?_⟩
    · rw [asc_append, b]
      refine ⟨a, ⟨h0, by simpa using h1, ?_⟩, trivial⟩
      rw [nth_swapAt (by omega), nth_swapAt (by omega), if_pos rfl, if_neg (by omega), if_pos (by omega), show k.toNat - 1 + 1 = k.toNat by omega]
      exact h2
    · rw [run_append, b]
      show swapAt (swapAt l (k.toNat - 1)) (k.toNat - 1) = l
      exact run_swap_back h0 h1

/-- positive words whose exchanges rise stand for the permutation that they make up -/
theorem asc_one {m : Nat} (w : List Int) (p : Pm m) (h : Asc (· < ·) w (inv p).1) : ∃ q : Pm m, run (inv p).1 w = (inv q).1 ∧ (gar m).Eqv ([p] ++ (lts m w).map Prod.snd) [q] := by
  induction w generalizing p with
  | nil => exact ⟨p, rfl, by simpa [lts] using (gar m).eqv_refl [p]⟩
  | cons k w ih =>
    obtain ⟨⟨h0, h1, h2⟩, h3⟩ := h
    rw [(inv p).len] at h1
    obtain ⟨j, rfl⟩ : ∃ j : Nat, k = j := ⟨k.toNat, by omega⟩
    rw [Int.toNat_natCast] at h1 h2 h3
    have hj : 0 < j := by omega
    have e1 : swapAt (inv p).1 (j - 1) = (inv (mul p (sg m j h1))).1 := by
      rw [front_val _ h1 hj, mul_inv_rev, sg_inv h1]
    rw [e1] at h3
    obtain ⟨q, hq, he⟩ := ih _ h3
    refine ⟨q, ?_, ?_⟩
    · show run (swapAt (inv p).1 ((j : Int).toNat - 1)) w = _
      rw [Int.toNat_natCast, e1, hq]
    · have hr : (gar m).red p (sg m j h1) := by
        rw [red_sg p h1 hj]
        have a1 := (inv p).nth_at (show j - 1 < m by omega)
        have a2 := (inv p).nth_at h1
        rw [a1, a2] at h2; omega
      have e2 : [p] ++ (lts m ((j : Int) :: w)).map Prod.snd = [p, sg m j h1] ++ (lts m w).map Prod.snd := by
        simp [lts, ltr, sgT_eq h1]
      rw [e2]
      exact (gar m).eqv_trans ((gar m).eqv_app ((gar m).eqv_pair hr) ((gar m).eqv_refl _)) he
theorem asc_wq {m : Nat} {w w' : List Int} (h : Asc (· < ·) w (idn m)) (h' : Asc (· < ·) w' (idn m)) (hr : run (idn m) w = run (idn m) w') (hp : ∀ k ∈ w, 0 < k) (hp' : ∀ k ∈ w', 0 < k) : (gar m).Wq (lts m w) (lts m w') := by
  have e : idn m = (inv (one m)).1 := by rw [inv_one, idn_val]
  rw [e] at h h' hr
  obtain ⟨q, a1, a2⟩ := asc_one w _ h
  obtain ⟨q', b1, b2⟩ := asc_one w' _ h'
  rw [a1, b1] at hr
  have e2 : q = q' := by
    have : inv q = inv q' := Subtype.ext hr
    rw [← inv_inv q, this, inv_inv]
  subst e2
  rw [lts_pos hp, lts_pos hp']
  apply Gar.Wq.pos
  have d : ∀ u : List (Pm m), (gar m).Eqv ([one m] ++ u) u := fun u => by
    exact (gar m).eqv_app (gar m).eqv_one ((gar m).eqv_refl u)
  exact (gar m).eqv_trans ((gar m).eqv_symm (d _)) ((gar m).eqv_trans a2 ((gar m).eqv_trans ((gar m).eqv_symm b2) (d _)))

theorem idn_sorted (m : Nat) : (idn m).Pairwise (· < ·) := by
  unfold idn marks
  rw [List.pairwise_map]
  exact List.Pairwise.imp (fun h => by omega) List.pairwise_lt_range
theorem len4 {α : Type} {L : List α} (h : L.length = 4) : ∃ a b c d, L = [a, b, c, d] := by
  rcases L with _ | ⟨a, _ | ⟨b, _ | ⟨c, _ | ⟨d, _ | ⟨e, L⟩⟩⟩⟩⟩ <;> simp at h
  exact ⟨a, b, c, d, rfl⟩
theorem len5 {α : Type} {L : List α} (h : L.length = 5) : ∃ a b c d e, L = [a, b, c, d, e] := by
  rcases L with _ | ⟨a, _ | ⟨b, _ | ⟨c, _ | ⟨d, _ | ⟨e, _ | ⟨f, L⟩⟩⟩⟩⟩⟩ <;> simp at h
  exact ⟨a, b, c, d, e, rfl⟩
theorem len7 {α : Type} {L : List α} (h : L.length = 7) : ∃ a b c d e f g, L = [a, b, c, d, e, f, g] := by
  rcases L with _ | ⟨a, _ | ⟨b, _ | ⟨c, _ | ⟨d, _ | ⟨e, _ | ⟨f, _ | ⟨g, _ | ⟨x, L⟩⟩⟩⟩⟩⟩⟩⟩ <;> simp at h
  exact ⟨a, b, c, d, e, f, g, rfl⟩
theorem idn_split (m : Nat) {p : List Nat} (h : p.sum = m) : ∃ L : List (List Int), L.map List.length = p ∧ L.flatten = idn m := by
  have key : ∀ (p : List Nat) (l : List Int), p.sum = l.length → ∃ L : List (List Int), L.map List.length = p ∧ L.flatten = l := by
    intro p
    induction p with
    | nil => intro l hl; exact ⟨[], rfl, by simp at hl; simp [List.eq_nil_of_length_eq_zero hl.symm]⟩
    | cons a p ih =>
      intro l hl
      rw [List.sum_cons] at hl
      obtain ⟨L, h1, h2⟩ := ih (l.drop a) (by rw [List.length_drop]; omega)
      exact ⟨l.take a :: L, by simp [h1, List.length_take]; omega, by simp [h2]⟩
  exact key p (idn m) (by simpa using h)

/-! doubled words -/
/-- the sizes at the places i and i + 1 change places -/
def swN (s : List Nat) (i : Nat) : List Nat := (s.set i (s[i + 1]?.getD 0)).set (i + 1) (s[i]?.getD 0)
def dl (s : List Nat) (k : Int) : List Int := (bl (s.take (k.natAbs - 1)).sum (s[k.natAbs - 1]?.getD 0) (s[k.natAbs]?.getD 0)).map (k.sign * ·)
def dw : List Int → List Nat → List Int
  | [], _ => []
  | k :: w, s => dl s k ++ dw w (swN s (k.natAbs - 1))
def aft (w : List Int) (s : List Nat) : List Nat := w.foldl (fun s k => swN s (k.natAbs - 1)) s
theorem dw_append (u v : List Int) (s : List Nat) : dw (u ++ v) s = dw u s ++ dw v (aft u s) := by
  induction u generalizing s with
  | nil => rfl
  | cons k u ih => rw [List.cons_append, dw, dw, ih, List.append_assoc]; rfl
theorem aft_append (u v : List Int) (s : List Nat) : aft (u ++ v) s = aft v (aft u s) := by unfold aft; rw [List.foldl_append]
theorem swN_mid (P Q : List Nat) (a b : Nat) : swN (P ++ a :: b :: Q) P.length = P ++ b :: a :: Q := by
  unfold swN
  have e1 : (P ++ a :: b :: Q)[P.length + 1]?.getD 0 = b := by
    rw [List.getElem?_append_right (by omega)]; simp
  have e2 : (P ++ a :: b :: Q)[P.length]?.getD 0 = a := by
    rw [List.getElem?_append_right (by omega)]; simp
  rw [e1, e2, List.set_append_right _ _ (Nat.le_refl _), Nat.sub_self, List.set_cons_zero, List.set_append_right _ _ (by omega)]
  simp
theorem dl_mid (P Q : List Nat) (a b : Nat) (k : Int) (hk : k.natAbs = P.length + 1) : dl (P ++ a :: b :: Q) k = (bl P.sum a b).map (k.sign * ·) := by
  unfold dl
  rw [hk, Nat.add_sub_cancel, List.take_left]
  congr 2
  · rw [List.getElem?_append_right (by omega)]; simp
  · rw [List.getElem?_append_right (by omega)]; simp
/-- a valid letter on n strands -/
def Lv (n : Nat) (k : Int) : Prop := k ≠ 0 ∧ k.natAbs < n
theorem Lv.neg {n : Nat} {k : Int} (h : Lv n k) : Lv n (-k) := ⟨by have := h.1; omega, by rw [Int.natAbs_neg]; exact h.2⟩
theorem split_at {n : Nat} {s : List Nat} (hs : s.length = n) {k : Int} (h : Lv n k) : ∃ P a b Q, s = P ++ a :: b :: Q ∧ k.natAbs = P.length + 1 := by
  obtain ⟨h0, h1⟩ := h
  have hk : k.natAbs - 1 + 1 < s.length := by omega
  refine ⟨s.take (k.natAbs - 1), s[k.natAbs - 1], s[k.natAbs - 1 + 1], s.drop (k.natAbs - 1 + 2), ?_, by rw [List.length_take]; omega⟩
  rw [← List.drop_eq_getElem_cons hk, ← List.drop_eq_getElem_cons (by omega), List.take_append_drop]
theorem sum_swap (P Q : List Nat) (a b : Nat) : (P ++ b :: a :: Q).sum = (P ++ a :: b :: Q).sum := by simp [List.sum_append]; omega
theorem swN_len (s : List Nat) (i : Nat) : (swN s i).length = s.length := by simp [swN]
theorem aft_len (w : List Int) (s : List Nat) : (aft w s).length = s.length := by
  unfold aft
  induction w generalizing s with
  | nil => rfl
  | cons k w ih => rw [List.foldl_cons, ih, swN_len]
theorem aft_sum {n : Nat} (w : List Int) (s : List Nat) (hs : s.length = n) (hw : ∀ k ∈ w, Lv n k) : (aft w s).sum = s.sum := by
  unfold aft
  induction w generalizing s with
  | nil => rfl
  | cons k w ih =>
    rw [List.foldl_cons, ih _ (by rw [swN_len, hs]) (fun x hx => hw x (by simp [hx]))]
    obtain ⟨P, a, b, Q, rfl, e⟩ := split_at hs (hw k (by simp))
    rw [show k.natAbs - 1 = P.length by omega, swN_mid, sum_swap]

/-- two words stand for one another, however the strands are doubled -/
def De (n : Nat) (u u' : List Int) : Prop := ∀ s : List Nat, s.length = n → aft u s = aft u' s ∧ (gar s.sum).Wq (lts s.sum (dw u s)) (lts s.sum (dw u' s))
theorem De.refl (n : Nat) (u : List Int) : De n u u := fun _ _ => ⟨rfl, Gar.Wq.refl _ _⟩
theorem De.symm {n : Nat} {u v : List Int} (h : De n u v) : De n v u := fun s hs => ⟨(h s hs).1.symm, Gar.Wq.symm _ (h s hs).2⟩
theorem De.trans {n : Nat} {u v w : List Int} (h : De n u v) (k : De n v w) : De n u w := fun s hs => ⟨(h s hs).1.trans (k s hs).1, Gar.Wq.trans _ (h s hs).2 (k s hs).2⟩
theorem De.app {n : Nat} {u u' v v' : List Int} (hu : ∀ k ∈ u, Lv n k) (h : De n u u') (k : De n v v') : De n (u ++ v) (u' ++ v') := fun s hs => by
  obtain ⟨h1, h2⟩ := h s hs
  obtain ⟨k1, k2⟩ := k (aft u s) (by rw [aft_len, hs])
  rw [aft_sum u s hs hu] at k2
  rw [aft_append, aft_append, dw_append, dw_append, lts_append, lts_append, ← h1]
  exact ⟨k1, Gar.Wq.app _ h2 k2⟩
theorem map_one_mul (l : List Int) : l.map ((1 : Int) * ·) = l := by simp
theorem map_neg_mul (l : List Int) : l.map ((-1 : Int) * ·) = l.map (- ·) := by
  apply List.map_congr_left; intro x _; omega
theorem sign_pos {k : Int} (h : 0 < k) : k.sign = 1 := Int.sign_eq_one_of_pos h
theorem sign_neg {k : Int} (h : k < 0) : k.sign = -1 := Int.sign_eq_neg_one_of_neg h
/-- below two strands there is nothing to cross -/
theorem bl_small {f a b : Nat} (h : a + b < 2) : bl f a b = [] := by
  rcases Nat.eq_zero_or_pos b with e | e
  · subst e; rfl
  · obtain rfl : a = 0 := by omega
    exact bl_zero f b
/-- a block back over another one -/
theorem back_wq (P Q : List Nat) (a b : Nat) : (gar (P ++ a :: b :: Q).sum).Wq (lts _ (bl P.sum a b)) (lts _ (bl P.sum b a).reverse) := by
  obtain ⟨L, hL, hf⟩ := idn_split (P ++ a :: b :: Q).sum (p := [P.sum, a, b, Q.sum]) (by simp [List.sum_append])
  obtain ⟨X, A, B, Y, rfl⟩ := len4 (by have := congrArg List.length hL; simpa using this)
  · simp only [List.map_cons, List.map_nil, List.cons.injEq, and_true] at hL
    obtain ⟨hX, hA, hB, hY⟩ := hL
    have hf' : idn (P ++ a :: b :: Q).sum = X ++ A ++ B ++ Y := by rw [← hf]; simp
    have hs := idn_sorted (P ++ a :: b :: Q).sum
    rw [hf', List.append_assoc, List.append_assoc, List.pairwise_append] at hs
    have hs2 := hs.2.1
    rw [List.pairwise_append] at hs2
    have hab : ∀ x ∈ A, ∀ y ∈ B, x < y := fun x hx y hy => hs2.2.2 x hx y (by simp [hy])
    rw [← hX, ← hA, ← hB]
    have h1 := bl_asc (· < ·) X A B Y hab
    have h2 := bl_run X A B Y
    have h3 := bl_asc (fun x y => y < x) X B A Y (fun y hy x hx => hab x hx y hy)
    have h4 := bl_run X B A Y
    have h5 := rev_asc _ _ _ h3
    rw [h4] at h5
    rw [← hA, ← hB] at hf'
    refine asc_wq (by rw [hf']; exact h1) (by rw [hf']; exact h5.1) (by rw [hf', h2, h5.2]) (bl_pos _ _ _) (fun k hk => bl_pos _ _ _ k (by simpa using hk))
theorem De.cancel_pos {n : Nat} {k : Int} (h : Lv n k) (hp : 0 < k) : De n [k, -k] [] ∧ De n [-k, k] [] := by
  have main : ∀ s : List Nat, s.length = n → (aft [k, -k] s = s ∧ (gar s.sum).Wq (lts s.sum (dw [k, -k] s)) (lts s.sum [])) ∧ (aft [-k, k] s = s ∧ (gar s.sum).Wq (lts s.sum (dw [-k, k] s)) (lts s.sum [])) := by
    intro s hs
    obtain ⟨P, a, b, Q, rfl, e⟩ := split_at hs h
    have e1 : k.natAbs - 1 = P.length := by omega
    have e2 : (-k).natAbs = P.length + 1 := by rw [Int.natAbs_neg]; exact e
    have e3 : (-k).natAbs - 1 = P.length := by omega
    have f1 : swN (P ++ a :: b :: Q) (k.natAbs - 1) = P ++ b :: a :: Q := by rw [e1, swN_mid]
    have f2 : swN (P ++ a :: b :: Q) ((-k).natAbs - 1) = P ++ b :: a :: Q := by rw [e3, swN_mid]
    have g1 : swN (P ++ b :: a :: Q) (k.natAbs - 1) = P ++ a :: b :: Q := by rw [e1, swN_mid]
    have g2 : swN (P ++ b :: a :: Q) ((-k).natAbs - 1) = P ++ a :: b :: Q := by rw [e3, swN_mid]
    have d1 : dw [k, -k] (P ++ a :: b :: Q) = bl P.sum a b ++ (bl P.sum b a).map (- ·) := by
      rw [dw, dw, dw, f1, dl_mid P Q a b k e, dl_mid P Q b a (-k) e2, sign_pos hp, sign_neg (by omega), map_one_mul, map_neg_mul, List.append_nil]
    have d2 : dw [-k, k] (P ++ a :: b :: Q) = (bl P.sum a b).map (- ·) ++ bl P.sum b a := by
      rw [dw, dw, dw, f2, dl_mid P Q a b (-k) e2, dl_mid P Q b a k e, sign_pos hp, sign_neg (by omega), map_one_mul, map_neg_mul, List.append_nil]
    have a1 : aft [k, -k] (P ++ a :: b :: Q) = P ++ a :: b :: Q := by
      show swN (swN _ _) _ = _
      rw [f1, g2]
    have a2 : aft [-k, k] (P ++ a :: b :: Q) = P ++ a :: b :: Q := by
      show swN (swN _ _) _ = _
      rw [f2, g1]
    rw [d1, d2, a1, a2]
    by_cases hm : (P ++ a :: b :: Q).sum < 2
    · have hab : a + b < 2 := by simp [List.sum_append] at hm; omega
      rw [bl_small hab, bl_small (by omega : b + a < 2)]
      exact ⟨⟨rfl, Gar.Wq.refl _ _⟩, ⟨rfl, Gar.Wq.refl _ _⟩⟩
    · have hne := top_ne_one (n := (P ++ a :: b :: Q).sum) (by omega)
      have nz : ∀ c d, ∀ x ∈ (bl P.sum c d).reverse, x ≠ 0 := fun c d x hx => by have := bl_pos P.sum c d x (by simpa using hx); omega
      have w1 : ∀ c d, Gar.winv (lts (P ++ a :: b :: Q).sum (bl P.sum c d).reverse) = lts _ ((bl P.sum c d).map (- ·)) := fun c d => by
        rw [winv_lts _ _ (nz c d), List.reverse_reverse]
      have b1 := Gar.Wq.inv _ hne (back_wq P Q a b)
      rw [w1] at b1
      have b2 := back_wq P Q b a
      rw [sum_swap] at b2
      have b3 := Gar.Wq.inv _ hne b2
      rw [w1] at b3
      rw [lts_append, lts_append]
      refine ⟨⟨rfl, ?_⟩, ⟨rfl, ?_⟩⟩
      · exact Gar.Wq.trans _ (Gar.Wq.app _ (Gar.Wq.refl _ _) (Gar.Wq.symm _ b1)) (Gar.Wq.inv_right _ hne _)
      · exact Gar.Wq.trans _ (Gar.Wq.app _ (Gar.Wq.symm _ b3) (Gar.Wq.refl _ _)) (Gar.Wq.inv_left _ hne _)
  exact ⟨fun s hs => (main s hs).1, fun s hs => (main s hs).2⟩
theorem De.cancel {n : Nat} {k : Int} (h : Lv n k) : De n [k, -k] [] := by
  rcases Int.lt_trichotomy k 0 with hk | hk | hk
  · have := (De.cancel_pos h.neg (by omega)).2
    rwa [Int.neg_neg] at this
  · exact absurd hk h.1
  · exact (De.cancel_pos h hk).1
/-- the letters backwards, with the other signs -/
def invI (w : List Int) : List Int := w.reverse.map (- ·)
theorem invI_invI (w : List Int) : invI (invI w) = w := by
  unfold invI; rw [← List.map_reverse, List.reverse_reverse, List.map_map]; simp [Function.comp_def]
theorem lv_invI {n : Nat} {w : List Int} (h : ∀ k ∈ w, Lv n k) : ∀ k ∈ invI w, Lv n k := by
  intro k hk
  unfold invI at hk
  rw [List.mem_map] at hk
  obtain ⟨x, hx, rfl⟩ := hk
  exact (h x (by simpa using hx)).neg
theorem De.inv_right {n : Nat} (w : List Int) (h : ∀ k ∈ w, Lv n k) : De n (w ++ invI w) [] := by
  induction w with
  | nil => exact De.refl n []
  | cons k w ih =>
    have e : (k :: w) ++ invI (k :: w) = [k] ++ ((w ++ invI w) ++ [-k]) := by simp [invI]
    rw [e]
    have hk : Lv n k := h k (by simp)
    have hw : ∀ x ∈ w, Lv n x := fun x hx => h x (by simp [hx])
    have hin : ∀ x ∈ w ++ invI w, Lv n x := by
      intro x hx
      rcases List.mem_append.1 hx with hx | hx
      · exact hw x hx
      · exact lv_invI hw x hx
    have h1 : De n ((w ++ invI w) ++ [-k]) ([] ++ [-k]) := De.app hin (ih hw) (De.refl n _)
    have h2 : De n ([k] ++ ((w ++ invI w) ++ [-k])) ([k] ++ ([] ++ [-k])) := De.app (by simpa using hk) (De.refl n _) h1
    exact h2.trans (De.cancel hk)
theorem De.inv {n : Nat} {w w' : List Int} (hw : ∀ k ∈ w, Lv n k) (hw' : ∀ k ∈ w', Lv n k) (h : De n w w') : De n (invI w) (invI w') := by
  have i1 := lv_invI hw
  have hl : De n (invI w ++ w) [] := by
    have := De.inv_right (invI w) i1
    rwa [invI_invI] at this
  have h1 : De n (invI w ++ (w' ++ invI w')) (invI w ++ []) := De.app i1 (De.refl n _) (De.inv_right w' hw')
  have h2 : De n (invI w ++ (w' ++ invI w')) (invI w ++ (w ++ invI w')) := De.app i1 (De.refl n _) (De.app hw' h.symm (De.refl n _))
  have h3 : De n ((invI w ++ w) ++ invI w') ([] ++ invI w') := De.app (by
    intro x hx
    rcases List.mem_append.1 hx with hx | hx
    · exact i1 x hx
    · exact hw x hx) hl (De.refl n _)
  rw [List.append_nil] at h1
  rw [List.append_assoc, List.nil_append] at h3
  exact h1.symm.trans (h2.trans h3)

end Go.Proofs.Ytmeccemnmkobbaa

namespace Go.Proofs.Ytmeccemnmkobbaa
open Pm

theorem dl_at {P Q : List Nat} {a b : Nat} {k : Nat} (hk : k = P.length + 1) : dl (P ++ a :: b :: Q) (k : Int) = bl P.sum a b := by
  rw [dl_mid P Q a b (k : Int) (by omega), sign_pos (by omega), map_one_mul]
theorem sw_at {P Q : List Nat} {a b : Nat} {k : Nat} (hk : k = P.length + 1) : swN (P ++ a :: b :: Q) ((k : Int).natAbs - 1) = P ++ b :: a :: Q := by
  rw [show (k : Int).natAbs - 1 = P.length by omega, swN_mid]
theorem lv_nat {n k : Nat} (h0 : 0 < k) (h : k < n) : Lv n (k : Int) := ⟨by omega, by omega⟩

theorem De.comm_pos {n i j : Nat} (hi : 0 < i) (hij : i + 2 ≤ j) (hj : j < n) : De n [(i : Int), (j : Int)] [(j : Int), (i : Int)] := by
  intro s hs
  obtain ⟨P, a, b, R, rfl, e⟩ := split_at hs (lv_nat hi (show i < n by omega))
  obtain ⟨Q, c, d, T, hR, e2⟩ := split_at (s := R) (n := R.length) rfl (k := ((j - i - 1 : Nat) : Int)) ⟨by omega, by simp at hs; omega⟩
  subst hR
  have e : i = P.length + 1 := by omega
  have e2 : j = P.length + 2 + Q.length + 1 := by omega
  have s1 : P ++ b :: a :: (Q ++ c :: d :: T) = (P ++ b :: a :: Q) ++ c :: d :: T := by simp
  have s2 : P ++ a :: b :: (Q ++ c :: d :: T) = (P ++ a :: b :: Q) ++ c :: d :: T := by simp
  have s3 : P ++ a :: b :: (Q ++ d :: c :: T) = (P ++ a :: b :: Q) ++ d :: c :: T := by simp
  have l1 : j = (P ++ b :: a :: Q).length + 1 := by simp; omega
  have l2 : j = (P ++ a :: b :: Q).length + 1 := by simp; omega
  have d1 : dw [(i : Int), (j : Int)] (P ++ a :: b :: (Q ++ c :: d :: T)) = bl P.sum a b ++ bl (P ++ b :: a :: Q).sum c d := by
    rw [dw, dw, dw, dl_at e, sw_at e, s1, dl_at l1, List.append_nil]
  have d2 : dw [(j : Int), (i : Int)] (P ++ a :: b :: (Q ++ c :: d :: T)) = bl (P ++ a :: b :: Q).sum c d ++ bl P.sum a b := by
    rw [dw, dw, dw, s2, dl_at l2, sw_at l2, ← s3, dl_at e, List.append_nil]
  have a1 : aft [(i : Int), (j : Int)] (P ++ a :: b :: (Q ++ c :: d :: T)) = (P ++ b :: a :: Q) ++ d :: c :: T := by
    show swN (swN _ _) _ = _
    rw [sw_at e, s1, sw_at l1]
  have a2 : aft [(j : Int), (i : Int)] (P ++ a :: b :: (Q ++ c :: d :: T)) = (P ++ b :: a :: Q) ++ d :: c :: T := by
    show swN (swN _ _) _ = _
    rw [s2, sw_at l2, ← s3, sw_at e]; simp
  rw [d1, d2, a1, a2]
  refine ⟨rfl, ?_⟩
  obtain ⟨L, hL, hf⟩ := idn_split (P ++ a :: b :: (Q ++ c :: d :: T)).sum (p := [P.sum, a, b, Q.sum, c, d, T.sum]) (by simp [List.sum_append])
  obtain ⟨X, A, B, Z, C, D, Y, rfl⟩ := len7 (by have := congrArg List.length hL; simpa using this)
  · simp only [List.map_cons, List.map_nil, List.cons.injEq, and_true] at hL
    obtain ⟨hX, hA, hB, hZ, hC, hD, hY⟩ := hL
    have hf' : idn (P ++ a :: b :: (Q ++ c :: d :: T)).sum = X ++ (A ++ (B ++ (Z ++ (C ++ (D ++ Y))))) := by rw [← hf]; simp
    have hs := idn_sorted (P ++ a :: b :: (Q ++ c :: d :: T)).sum
    rw [hf', List.pairwise_append] at hs
    have p1 := hs.2.1
    rw [List.pairwise_append] at p1
    have p2 := p1.2.1
    rw [List.pairwise_append] at p2
    have p3 := p2.2.1
    rw [List.pairwise_append] at p3
    have p4 := p3.2.1
    rw [List.pairwise_append] at p4
    have hab : ∀ x ∈ A, ∀ y ∈ B, x < y := fun x hx y hy => p1.2.2 x hx y (by simp [hy])
    have hcd : ∀ x ∈ C, ∀ y ∈ D, x < y := fun x hx y hy => p4.2.2 x hx y (by simp [hy])
    have n1 : (P ++ b :: a :: Q).sum = (X ++ B ++ A ++ Z).length := by simp [List.sum_append]; omega
    have n2 : (P ++ a :: b :: Q).sum = (X ++ A ++ B ++ Z).length := by simp [List.sum_append]; omega
    rw [n1, n2, ← hX, ← hA, ← hB, ← hC, ← hD]
    have q1 := bl_asc (· < ·) X A B (Z ++ C ++ D ++ Y) hab
    have r1 := bl_run X A B (Z ++ C ++ D ++ Y)
    have q2 := bl_asc (· < ·) (X ++ B ++ A ++ Z) C D Y hcd
    have r2 := bl_run (X ++ B ++ A ++ Z) C D Y
    have q3 := bl_asc (· < ·) (X ++ A ++ B ++ Z) C D Y hcd
    have r3 := bl_run (X ++ A ++ B ++ Z) C D Y
    have q4 := bl_asc (· < ·) X A B (Z ++ D ++ C ++ Y) hab
    have r4 := bl_run X A B (Z ++ D ++ C ++ Y)
    rw [← hA, ← hB, ← hC, ← hD] at hf'
    simp only [List.append_assoc] at hf' q1 r1 q2 r2 q3 r3 q4 r4 ⊢
    refine asc_wq ?_ ?_ ?_ ?_ ?_
    · rw [hf', asc_append, r1]; exact ⟨q1, q2⟩
    · rw [hf', asc_append, r3]; exact ⟨q3, q4⟩
    · rw [hf', run_append, run_append, r1, r2, r3, r4]
    · intro k hk
      rcases List.mem_append.1 hk with h | h <;> exact bl_pos _ _ _ k h
    · intro k hk
      rcases List.mem_append.1 hk with h | h <;> exact bl_pos _ _ _ k h

theorem De.braid_pos {n i : Nat} (hi : 0 < i) (hj : i + 1 < n) : De n [(i : Int), ((i + 1 : Nat) : Int), (i : Int)] [((i + 1 : Nat) : Int), (i : Int), ((i + 1 : Nat) : Int)] := by
  intro s hs
  obtain ⟨P, a, b, R, rfl, e⟩ := split_at hs (lv_nat hi (show i < n by omega))
  have e : i = P.length + 1 := by omega
  match R with
  | [] => simp at hs; omega
  | c :: T =>
    have sh : ∀ x y z : Nat, P ++ x :: y :: z :: T = (P ++ [x]) ++ y :: z :: T := by intros; simp
    have l1 : ∀ x : Nat, i + 1 = (P ++ [x]).length + 1 := by intro x; simp; omega
    have d1 : dw [(i : Int), ((i + 1 : Nat) : Int), (i : Int)] (P ++ a :: b :: c :: T) = bl P.sum a b ++ (bl (P ++ [b]).sum a c ++ bl P.sum b c) := by
      rw [dw, dw, dw, dw, dl_at e, sw_at e, sh b a c, dl_at (l1 b), sw_at (l1 b), ← sh b c a, dl_at e, List.append_nil]
    have d2 : dw [((i + 1 : Nat) : Int), (i : Int), ((i + 1 : Nat) : Int)] (P ++ a :: b :: c :: T) = bl (P ++ [a]).sum b c ++ (bl P.sum a c ++ bl (P ++ [c]).sum a b) := by
      rw [dw, dw, dw, dw, sh a b c, dl_at (l1 a), sw_at (l1 a), ← sh a c b, dl_at e, sw_at e, sh c a b, dl_at (l1 c), List.append_nil]
    have a1 : aft [(i : Int), ((i + 1 : Nat) : Int), (i : Int)] (P ++ a :: b :: c :: T) = P ++ c :: b :: a :: T := by
      show swN (swN (swN _ _) _) _ = _
      rw [sw_at e, sh b a c, sw_at (l1 b), ← sh b c a, sw_at e]
    have a2 : aft [((i + 1 : Nat) : Int), (i : Int), ((i + 1 : Nat) : Int)] (P ++ a :: b :: c :: T) = P ++ c :: b :: a :: T := by
      show swN (swN (swN _ _) _) _ = _
      rw [sh a b c, sw_at (l1 a), ← sh a c b, sw_at e, sh c a b, sw_at (l1 c), ← sh c b a]
    rw [d1, d2, a1, a2]
    refine ⟨rfl, ?_⟩
    obtain ⟨L, hL, hf⟩ := idn_split (P ++ a :: b :: c :: T).sum (p := [P.sum, a, b, c, T.sum]) (by simp [List.sum_append])
    obtain ⟨X, A, B, C, Y, rfl⟩ := len5 (by have := congrArg List.length hL; simpa using this)
    · simp only [List.map_cons, List.map_nil, List.cons.injEq, and_true] at hL
      obtain ⟨hX, hA, hB, hC, hY⟩ := hL
      have hf' : idn (P ++ a :: b :: c :: T).sum = X ++ (A ++ (B ++ (C ++ Y))) := by rw [← hf]; simp
      have hs := idn_sorted (P ++ a :: b :: c :: T).sum
      rw [hf', List.pairwise_append] at hs
      have p1 := hs.2.1
      rw [List.pairwise_append] at p1
      have p2 := p1.2.1
      rw [List.pairwise_append] at p2
      have hab : ∀ x ∈ A, ∀ y ∈ B, x < y := fun x hx y hy => p1.2.2 x hx y (by simp [hy])
      have hac : ∀ x ∈ A, ∀ y ∈ C, x < y := fun x hx y hy => p1.2.2 x hx y (by simp [hy])
      have hbc : ∀ x ∈ B, ∀ y ∈ C, x < y := fun x hx y hy => p2.2.2 x hx y (by simp [hy])
      have n1 : (P ++ [b]).sum = (X ++ B).length := by simp [List.sum_append]; omega
      have n2 : (P ++ [a]).sum = (X ++ A).length := by simp [List.sum_append]; omega
      have n3 : (P ++ [c]).sum = (X ++ C).length := by simp [List.sum_append]; omega
      rw [n1, n2, n3, ← hX, ← hA, ← hB, ← hC]
      have q1 := bl_asc (· < ·) X A B (C ++ Y) hab
      have r1 := bl_run X A B (C ++ Y)
      have q2 := bl_asc (· < ·) (X ++ B) A C Y hac
      have r2 := bl_run (X ++ B) A C Y
      have q3 := bl_asc (· < ·) X B C (A ++ Y) hbc
      have r3 := bl_run X B C (A ++ Y)
      have q4 := bl_asc (· < ·) (X ++ A) B C Y hbc
      have r4 := bl_run (X ++ A) B C Y
      have q5 := bl_asc (· < ·) X A C (B ++ Y) hac
      have r5 := bl_run X A C (B ++ Y)
      have q6 := bl_asc (· < ·) (X ++ C) A B Y hab
      have r6 := bl_run (X ++ C) A B Y
      rw [← hA, ← hB, ← hC] at hf'
      simp only [List.append_assoc] at hf' q1 r1 q2 r2 q3 r3 q4 r4 q5 r5 q6 r6 ⊢
      refine asc_wq ?_ ?_ ?_ ?_ ?_
      · rw [hf', asc_append, asc_append, r1, r2]; exact ⟨q1, q2, q3⟩
      · rw [hf', asc_append, asc_append, r4, r5]; exact ⟨q4, q5, q6⟩
      · rw [hf', run_append, run_append, run_append, run_append, r1, r2, r3, r4, r5, r6]
      · intro k hk
        rcases List.mem_append.1 hk with h | h
        · exact bl_pos _ _ _ k h
        · rcases List.mem_append.1 h with h | h <;> exact bl_pos _ _ _ k h
      · intro k hk
        rcases List.mem_append.1 hk with h | h
        · exact bl_pos _ _ _ k h
        · rcases List.mem_append.1 h with h | h <;> exact bl_pos _ _ _ k h

/-- far positive letters in either order -/
theorem De.comm_pp {n : Nat} {x y : Int} (hx : Lv n x) (hy : Lv n y) (px : 0 < x) (py : 0 < y) (h : x + 2 ≤ y ∨ y + 2 ≤ x) : De n [x, y] [y, x] := by
  obtain ⟨i, rfl⟩ : ∃ i : Nat, x = i := ⟨x.toNat, by omega⟩
  obtain ⟨j, rfl⟩ : ∃ j : Nat, y = j := ⟨y.toNat, by omega⟩
  have h1 := hx.2
  have h2 := hy.2
  rcases h with h | h
  · exact De.comm_pos (by omega) (by omega) (by omega)
  · exact (De.comm_pos (by omega) (by omega) (by omega)).symm
theorem De.comm_pn {n : Nat} {x y : Int} (hx : Lv n x) (hy : Lv n y) (px : 0 < x) (py : 0 < y) (h : x + 2 ≤ y ∨ y + 2 ≤ x) : De n [x, -y] [-y, x] := by
  have c := De.comm_pp hx hy px py h
  have lx : ∀ k ∈ [x], Lv n k := by simpa using hx
  have ly : ∀ k ∈ [y], Lv n k := by simpa using hy
  have ln : ∀ k ∈ [-y], Lv n k := by simpa using hy.neg
  -- -y x ~ -y x y -y ~ -y y x -y ~ x -y
  have a1 : De n ([-y] ++ ([x] ++ [y, -y])) ([-y] ++ ([x] ++ [])) := De.app ln (De.refl n _) (De.app lx (De.refl n _) (De.cancel hy))
  have lxy : ∀ k ∈ [x, y], Lv n k := by
    intro k hk
    rcases List.mem_cons.1 hk with rfl | hk
    · exact hx
    · obtain rfl : k = y := by simpa using hk
      exact hy
  have a2 : De n ([-y] ++ ([x, y] ++ [-y])) ([-y] ++ ([y, x] ++ [-y])) := De.app ln (De.refl n _) (De.app lxy c (De.refl n _))
  have a3 : De n ([-y, y] ++ ([x] ++ [-y])) ([] ++ ([x] ++ [-y])) := by
    refine De.app ?_ ?_ (De.refl n _)
    · intro k hk
      rcases List.mem_cons.1 hk with rfl | hk
      · exact hy.neg
      · obtain rfl : k = y := by simpa using hk
        exact hy
    · have := De.cancel hy.neg
      rwa [Int.neg_neg] at this
  exact (a1.symm.trans (a2.trans a3)).symm
theorem De.comm {n : Nat} {x y : Int} (hx : Lv n x) (hy : Lv n y) (h : x.natAbs + 2 ≤ y.natAbs ∨ y.natAbs + 2 ≤ x.natAbs) : De n [x, y] [y, x] := by
  have x0 := hx.1
  have y0 := hy.1
  rcases Int.lt_or_gt_of_ne x0 with px | px <;> rcases Int.lt_or_gt_of_ne y0 with py | py
  · have c := De.comm_pp hy.neg hx.neg (by omega) (by omega) (by omega)
    have := De.inv (w := [-y, -x]) (w' := [-x, -y]) (by
      intro k hk
      rcases List.mem_cons.1 hk with rfl | hk
      · exact hy.neg
      · obtain rfl : k = -x := by simpa using hk
        exact hx.neg) (by
      intro k hk
      rcases List.mem_cons.1 hk with rfl | hk
      · exact hx.neg
      · obtain rfl : k = -y := by simpa using hk
        exact hy.neg) c
    simpa [invI] using this
  · have := De.comm_pn hy hx.neg py (by omega) (by omega)
    rw [Int.neg_neg] at this
    exact this.symm
  · have := De.comm_pn hx hy.neg px (by omega) (by omega)
    rwa [Int.neg_neg] at this
  · exact De.comm_pp hx hy px py (by omega)
theorem De.braid_pp {n : Nat} {x y : Int} (hx : Lv n x) (hy : Lv n y) (px : 0 < x) (py : 0 < y) (h : x + 1 = y ∨ y + 1 = x) : De n [x, y, x] [y, x, y] := by
  obtain ⟨i, rfl⟩ : ∃ i : Nat, x = i := ⟨x.toNat, by omega⟩
  obtain ⟨j, rfl⟩ : ∃ j : Nat, y = j := ⟨y.toNat, by omega⟩
  have h1 := hx.2
  have h2 := hy.2
  rcases h with h | h
  · obtain rfl : j = i + 1 := by omega
    exact De.braid_pos (by omega) (by omega)
  · obtain rfl : i = j + 1 := by omega
    exact (De.braid_pos (by omega) (by omega)).symm
theorem De.braid {n : Nat} {x y : Int} (hx : Lv n x) (hy : Lv n y) (hs : 0 < x * y) (h : x + 1 = y ∨ y + 1 = x) : De n [x, y, x] [y, x, y] := by
  have x0 := hx.1
  rcases Int.lt_or_gt_of_ne x0 with px | px
  · have py : y < 0 := by
      rcases Int.lt_or_le y 0 with h1 | h1
      · exact h1
      · have := Int.mul_nonpos_of_nonpos_of_nonneg (Int.le_of_lt px) h1; omega
    have c := De.braid_pp hx.neg hy.neg (by omega) (by omega) (by omega)
    have l1 : ∀ k ∈ [-x, -y, -x], Lv n k := by
      intro k hk; simp at hk; rcases hk with rfl | rfl | rfl
      · exact hx.neg
      · exact hy.neg
      · exact hx.neg
    have l2 : ∀ k ∈ [-y, -x, -y], Lv n k := by
      intro k hk; simp at hk; rcases hk with rfl | rfl | rfl
      · exact hy.neg
      · exact hx.neg
      · exact hy.neg
    have := De.inv l1 l2 c
    simpa [invI] using this
  · have py : 0 < y := by
      rcases Int.lt_or_le 0 y with h1 | h1
      · exact h1
      · have := Int.mul_nonpos_of_nonneg_of_nonpos (Int.le_of_lt px) h1; omega
    exact De.braid_pp hx hy px py h

/-- one relation -/
inductive Rel1 (n : Nat) : List Int → List Int → Prop
  | cancel (u v : List Int) (x : Int) (h : Lv n x) : Rel1 n (u ++ v) (u ++ [x, -x] ++ v)
  | comm (u v : List Int) (x y : Int) (h : x.natAbs + 2 ≤ y.natAbs ∨ y.natAbs + 2 ≤ x.natAbs) : Rel1 n (u ++ [x, y] ++ v) (u ++ [y, x] ++ v)
  | braid (u v : List Int) (x y : Int) (hs : 0 < x * y) (h : x + 1 = y ∨ y + 1 = x) : Rel1 n (u ++ [x, y, x] ++ v) (u ++ [y, x, y] ++ v)
theorem Rel1.lv {n : Nat} {w w' : List Int} (h : Rel1 n w w') (hw : ∀ k ∈ w, Lv n k) : ∀ k ∈ w', Lv n k := by
  cases h with
  | cancel u v x hx =>
    intro k hk
    simp only [List.mem_append, List.mem_cons, List.not_mem_nil, or_false] at hk
    rcases hk with (hk | rfl | rfl) | hk
    · exact hw k (by simp [hk])
    · exact hx
    · exact hx.neg
    · exact hw k (by simp [hk])
  | comm u v x y _ =>
    intro k hk
    apply hw k
    simp only [List.mem_append, List.mem_cons, List.not_mem_nil, or_false] at hk ⊢
    rcases hk with (hk | rfl | rfl) | hk <;> simp [*]
  | braid u v x y _ _ =>
    intro k hk
    apply hw k
    simp only [List.mem_append, List.mem_cons, List.not_mem_nil, or_false] at hk ⊢
    rcases hk with (hk | rfl | rfl | rfl) | hk <;> simp [*]
theorem Rel1.de {n : Nat} {w w' : List Int} (h : Rel1 n w w') (hw : ∀ k ∈ w, Lv n k) : De n w w' := by
  cases h with
  | cancel u v x hx =>
    have h1 : De n (u ++ ([x, -x] ++ v)) (u ++ ([] ++ v)) := De.app (fun k hk => hw k (by simp [hk])) (De.refl n _) (De.app (by
      intro k hk
      rcases List.mem_cons.1 hk with rfl | hk
      · exact hx
      · obtain rfl : k = -x := by simpa using hk
        exact hx.neg) (De.cancel hx) (De.refl n _))
    have := h1.symm
    simpa using this
  | comm u v x y hh =>
    have hx : Lv n x := hw x (by simp)
    have hy : Lv n y := hw y (by simp)
    have h1 : De n (u ++ ([x, y] ++ v)) (u ++ ([y, x] ++ v)) := De.app (fun k hk => hw k (by simp [hk])) (De.refl n _) (De.app (by
      intro k hk
      exact hw k (by simp at hk ⊢; rcases hk with rfl | rfl <;> simp)) (De.comm hx hy hh) (De.refl n _))
    simpa using h1
  | braid u v x y hs hh =>
    have hx : Lv n x := hw x (by simp)
    have hy : Lv n y := hw y (by simp)
    have h1 : De n (u ++ ([x, y, x] ++ v)) (u ++ ([y, x, y] ++ v)) := De.app (fun k hk => hw k (by simp [hk])) (De.refl n _) (De.app (by
      intro k hk
      exact hw k (by simp at hk ⊢; rcases hk with rfl | rfl | rfl <;> simp)) (De.braid hx hy hs hh) (De.refl n _))
    simpa using h1
/-- any number of relations -/
inductive Rels (n : Nat) : List Int → List Int → Prop
  | refl (w : List Int) : Rels n w w
  | step {u v w : List Int} (h : Rels n u v) (k : Rel1 n v w) : Rels n u w
theorem Rels.trans {n : Nat} {u v w : List Int} (h : Rels n u v) (k : Rels n v w) : Rels n u w := by
  induction k with
  | refl => exact h
  | step _ k ih => exact .step ih k
theorem Rels.lv {n : Nat} {w w' : List Int} (h : Rels n w w') (hw : ∀ k ∈ w, Lv n k) : ∀ k ∈ w', Lv n k := by
  induction h with
  | refl => exact hw
  | step _ k ih => exact k.lv ih
theorem Rels.de {n : Nat} {w w' : List Int} (h : Rels n w w') (hw : ∀ k ∈ w, Lv n k) : De n w w' := by
  induction h with
  | refl => exact De.refl n _
  | step h k ih => exact ih.trans (k.de (h.lv hw))

/-- single strands: the word itself -/
theorem dw_ones {n : Nat} (w : List Int) (hw : ∀ k ∈ w, Lv n k) : dw w (List.replicate n 1) = w := by
  induction w with
  | nil => rfl
  | cons k w ih =>
    have hk := hw k (by simp)
    obtain ⟨P, a, b, Q, hs, e⟩ := split_at (s := List.replicate n 1) (by simp) hk
    have ha : ∀ x ∈ P ++ a :: b :: Q, x = 1 := by rw [← hs]; intro x hx; exact (List.mem_replicate.1 hx).2
    have h1 : a = 1 := ha a (by simp)
    have h2 : b = 1 := ha b (by simp)
    have hP : P = List.replicate P.length 1 := List.eq_replicate_iff.2 ⟨rfl, fun x hx => ha x (by simp [hx])⟩
    subst h1 h2
    have e1 : dl (List.replicate n 1) k = [k] := by
      rw [hs, dl_mid P Q 1 1 k e]
      have : P.sum = P.length := by rw [hP]; simp
      rw [this]
      simp only [bl, rowL, List.append_nil, List.map_cons, List.map_nil]
      congr 1
      rcases Int.lt_or_gt_of_ne hk.1 with h | h
      · rw [sign_neg h]; omega
      · rw [sign_pos h]; omega
    have e2 : swN (List.replicate n 1) (k.natAbs - 1) = List.replicate n 1 := by
      rw [hs, show k.natAbs - 1 = P.length by omega, swN_mid]
    rw [dw, e1, e2, ih fun x hx => hw x (by simp [hx])]; rfl
/-- relations keep the normal form -/
theorem Rels.nfW {n : Nat} {w w' : List Int} (h : Rels n w w') (hw : ∀ k ∈ w, Lv n k) : nfW n w = nfW n w' := by
  have h1 := (h.de hw (List.replicate n 1) (by simp)).2
  rw [dw_ones w hw, dw_ones w' (h.lv hw)] at h1
  have e : (List.replicate n 1).sum = n := by simp
  rw [e] at h1
  exact Gar.Wq.raw _ h1

end Go.Proofs.Ytmeccemnmkobbaa
