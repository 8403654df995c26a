/- Contracts: exported identity, half twist, word, inversions, descents. -/
import Derived.Test.YtgibgcjpehcemaaWpe
import Derived.Test.YtgibgcjpehcemaaSwp
namespace Go.Proofs.Ytgibgcjpehcemaa
open Go.RowKit

theorem inB_no {x lo hi : Int} (h : inB x lo hi = false) : ¬ (lo ≤ x ∧ x ≤ hi) := by simp [inB] at h; omega

set_option maxHeartbeats 1000000 in
theorem IdentityI (n : Int) (w : World) :
    Calls Try.prog 33 #[.int .i64 n] w fun e w' => ∃ x, e = .returned (.tuple #[x, .bool (inB n 0 12)]) ∧ Own w' w.heap.size 2 x (ints (onlyIf (inB n 0 12) (idn n.toNat))) ∧ Below w.heap.size w w' := by
  cases e1 : inB n 0 12 with
  | false =>
    go_enter Try.func33, Try.ntmps33
    go_wp2_with fail
    refine (in_impl _ _ _ _).mono ?_
    rintro e w1 ⟨rfl, rfl⟩
    rw [e1]
    go_wp2_with fail
    go_ret2
    exact ⟨_, rfl, own_nil _ _ _, Below.refl _ _⟩
  | true =>
    obtain ⟨x0, x1⟩ := inB_yes e1
    go_enter Try.func33, Try.ntmps33
    go_wp2_with fail
    refine (in_impl _ _ _ _).mono ?_
    rintro e w1 ⟨rfl, rfl⟩
    rw [e1]
    go_wp2_with fail
    refine (idn_impl _ _ x0 (by omega)).mono ?_
    rintro e w2 ⟨x, rfl, hown, hb⟩
    go_wp2_with fail
    go_ret2
    exact ⟨_, rfl, hown, hb⟩

/-- all letters of a word are exchanges of n things -/
def wordOk (n : Int) (l : List Int) (k : Nat) : Bool := (List.range k).all fun i => inB (nth l i) 0 (n - 2)
theorem wordOk_succ (n : Int) (l : List Int) (k : Nat) : wordOk n l (k + 1) = (wordOk n l k && inB (nth l k) 0 (n - 2)) := by simp [wordOk, List.range_succ]
theorem wordOk_at {n : Int} {l : List Int} {k : Nat} (h : wordOk n l k = true) {i : Nat} (hi : i < k) : 0 ≤ nth l i ∧ nth l i + 1 < n := by
  simp only [wordOk, List.all_eq_true, List.mem_range] at h
  have := inB_yes (h i hi); omega
theorem wordOk_no {n : Int} {l : List Int} {k m : Nat} (h : inB (nth l k) 0 (n - 2) = false) (hk : k < m) : wordOk n l m = false := by
  cases e : wordOk n l m with
  | false => rfl
  | true =>
    simp only [wordOk, List.all_eq_true, List.mem_range] at e
    rw [e k hk] at h; cases h
/-- whether a word is taken -/
def takes (n : Int) (l : List Int) : Bool := inB n 0 12 && decide (l.length ≤ 200) && wordOk n l l.length

set_option maxHeartbeats 2000000 in
theorem WordI (n : Int) (v : Value) (l : List Int) (w : World) (bn : -9223372036854775808 ≤ n ∧ n ≤ 9223372036854775807) (h : Reads w v (ints l)) :
    Calls Try.prog 29 #[.int .i64 n, v] w fun e w' => ∃ x, e = .returned (.tuple #[x, .bool (takes n l)]) ∧ Own w' w.heap.size 2 x (ints (onlyIf (takes n l) (wordF n.toNat l))) ∧ Below w.heap.size w w' := by
  have hs := h.small
  have hlen := h.len (P := Try.prog) 22 3 ⟨_, sliceI⟩
  simp only [length_ints] at hs hlen
  cases e1 : inB n 0 12 with
  | false =>
    have hno : takes n l = false := by simp [takes, e1]
    go_enter Try.func29, Try.ntmps29
    go_wp2_with fail
    refine (in_impl _ _ _ _).mono ?_
    rintro e w1 ⟨rfl, rfl⟩
    rw [e1]
    go_wp2_with fail
    go_ret2
    exact ⟨_, by rw [hno]; rfl, by rw [hno]; exact own_nil _ _ _, Below.refl _ _⟩
  | true =>
    obtain ⟨x0, x1⟩ := inB_yes e1
    by_cases h200 : l.length ≤ 200
    · go_enter Try.func29, Try.ntmps29
      go_wp2_with fail
      refine (in_impl _ _ _ _).mono ?_
      rintro e w1 ⟨rfl, rfl⟩
      rw [e1]
      go_wp2_with fail
      go_loop [7, 18] (fun _ i => ∃ k : Nat, k ≤ l.length ∧ i = .int .i64 k ∧ wordOk n l k = true) (fun _ i => l.length - (intOf i).toNat)
      case atStart => exact ⟨0, by omega, rfl, rfl⟩
      case round =>
        obtain ⟨k, hk, rfl, hok⟩ := hrel
        have hok' := hid hok
        clear hok
        by_cases hlt : k < l.length
        · have hi := h.idx 22 sliceI sizeI .i64 k (by omega) (by simpa using hlt)
          simp only [Int.toNat_natCast] at hi
          have hc := h.int hlt
          cases e2 : inB (nth l k) 0 (n - 2) with
          | false =>
            have hno : takes n l = false := by simp [takes, wordOk_no e2 hlt]
            go_wp2_with fail
            refine (in_impl _ _ _ _).mono ?_
            rintro e w1 ⟨rfl, rfl⟩
            rw [e2]
            go_wp2_with fail
            go_ret2
            exact ⟨_, by rw [hno]; rfl, by rw [hno]; exact own_nil _ _ _, Below.refl _ _⟩
          | true =>
            have hok2 : Hid (wordOk n l (k + 1) = true) := hid (by rw [wordOk_succ, hok'.out, e2]; rfl)
            go_wp2_with fail
            refine (in_impl _ _ _ _).mono ?_
            rintro e w1 ⟨rfl, rfl⟩
            rw [e2]
            go_wp2_with fail
            go_round
            case rel => exact ⟨k + 1, by omega, by go_num, hok2.out⟩
            case measure => simp [intOf]; omega
        · obtain rfl : k = l.length := by omega
          have hyes : takes n l = true := by simp [takes, e1, h200, hok'.out]
          have hY := hid hyes
          clear hyes
          go_wp2_with fail
          refine (word_impl _ _ _ _ h x0 (by omega) (by omega) (fun i hi => wordOk_at hok'.out hi)).mono ?_
          rintro e w2 ⟨x, rfl, hown, hb⟩
          go_wp2_with fail
          go_ret2
          exact ⟨_, by rw [hY.out]; rfl, by rw [hY.out]; exact hown, hb⟩
    · have hno : takes n l = false := by simp [takes, h200]
      go_enter Try.func29, Try.ntmps29
      go_wp2_with fail
      refine (in_impl _ _ _ _).mono ?_
      rintro e w1 ⟨rfl, rfl⟩
      rw [e1]
      go_wp2_with fail
      go_ret2
      exact ⟨_, by rw [hno]; rfl, by rw [hno]; exact own_nil _ _ _, Below.refl _ _⟩

set_option maxHeartbeats 2000000 in
theorem WordS (n : Int) (v : Value) (l : List Int) (w : World) (bn : -9223372036854775808 ≤ n ∧ n ≤ 9223372036854775807) (h : Reads w v (ints l)) :
    Calls Try.prog 30 #[.int .i64 n, v] w fun e w' => ∃ x, e = .returned (.tuple #[x, .bool (takes n l)]) ∧ Own w' w.heap.size 2 x (ints (onlyIf (takes n l) (wordF n.toNat l))) ∧ Below w.heap.size w w' := by
  have hs := h.small
  have hlen := h.len (P := Try.prog) 22 3 ⟨_, sliceI⟩
  simp only [length_ints] at hs hlen
  cases e1 : inB n 0 12 with
  | false =>
    have hno : takes n l = false := by simp [takes, e1]
    go_enter Try.func30, Try.ntmps30
    go_wp2_with fail
    refine (in_spec _ _ _ _).mono ?_
    rintro e w1 ⟨rfl, rfl⟩
    rw [e1]
    go_wp2_with fail
    go_ret2
    exact ⟨_, by rw [hno]; rfl, by rw [hno]; exact own_nil _ _ _, Below.refl _ _⟩
  | true =>
    obtain ⟨x0, x1⟩ := inB_yes e1
    by_cases h200 : l.length ≤ 200
    · go_enter Try.func30, Try.ntmps30
      go_wp2_with fail
      refine (in_spec _ _ _ _).mono ?_
      rintro e w1 ⟨rfl, rfl⟩
      rw [e1]
      go_wp2_with fail
      refine (idn_spec _ _ x0 (by omega)).mono ?_
      rintro e w1 ⟨x, rfl, hown, hb⟩
      go_wp2_with fail
      go_loopw [7, 8, 9] (fun i _ _ wr => ∃ k : Nat, k ≤ l.length ∧ i = .int .i64 k ∧ wordOk n l k = true ∧ Own wr w.heap.size 2 x (ints (exch (idn n.toNat) (l.take k))) ∧ Below w.heap.size w wr) (fun i _ _ _ => l.length - (intOf i).toNat)
      case atStart => exact ⟨0, by omega, rfl, rfl, by simpa [exch] using hown, hb⟩
      case round =>
        clear hown hb
        obtain ⟨k, hk, rfl, hok, hown, hb⟩ := hrel
        have hok' := hid hok
        clear hok
        by_cases hlt : k < l.length
        · have hi := h.idx 22 sliceI sizeI .i64 k (by omega) (by simpa using hlt)
          simp only [Int.toNat_natCast] at hi
          have hc := (h.below hb).int hlt
          cases e2 : inB (nth l k) 0 (n - 2) with
          | false =>
            have hno : takes n l = false := by simp [takes, wordOk_no e2 hlt]
            go_wp2_with fail
            refine (in_spec _ _ _ _).mono ?_
            rintro e w1 ⟨rfl, rfl⟩
            rw [e2]
            go_wp2_with fail
            go_ret2
            exact ⟨_, by rw [hno]; rfl, by rw [hno]; exact own_nil _ _ _, hb⟩
          | true =>
            have hok2 : Hid (wordOk n l (k + 1) = true) := hid (by rw [wordOk_succ, hok'.out, e2]; rfl)
            obtain ⟨r0, r1⟩ := inB_yes e2
            generalize hx : nth l k = a at *
            have hX := hid hx
            clear hx
            have hi2 := hown.reads.idx 22 sliceI sizeI .i64 a r0 (by simp; omega)
            have hi3 := hown.reads.idx 22 sliceI sizeI .i64 (a + 1) (by omega) (by simp; omega)
            rw [show (a + 1).toNat = a.toNat + 1 by omega] at hi3
            have hd := hown.reads.cell a.toNat _ (ints_at (by simp; omega))
            have hd2 := hown.reads.cell (a.toNat + 1) _ (ints_at (by simp; omega))
            have hf := hown.frozen (i := a.toNat) (by simp; omega)
            have hf2 := hown.frozen (i := a.toNat + 1) (by simp; omega)
            have hab := (hown.adr_blk (i := a.toNat) (by simp; omega)).2.1
            have hab2 := (hown.adr_blk (i := a.toNat + 1) (by simp; omega)).2.1
            have hne := hown.adr_ne (i := a.toNat) (j := a.toNat + 1) (by simp; omega) (by omega)
            have hne2 := hown.adr_ne (i := a.toNat + 1) (j := a.toNat) (by simp; omega) (by omega)
            have hst := ((hown.set (i := a.toNat) (by simp; omega) (.int .i64 (nth (exch (idn n.toNat) (l.take k)) (a.toNat + 1)))).set (i := a.toNat + 1) (by simp; omega) (.int .i64 (nth (exch (idn n.toNat) (l.take k)) a.toNat)))
            rw [ints_set, ints_set] at hst
            have he : ((exch (idn n.toNat) (l.take k)).set a.toNat (nth (exch (idn n.toNat) (l.take k)) (a.toNat + 1))).set (a.toNat + 1) (nth (exch (idn n.toNat) (l.take k)) a.toNat) = exch (idn n.toNat) (l.take (k + 1)) := by rw [exch_take hlt, hX.out]; rfl
            rw [he] at hst
            have hE := hid he
            clear he
            go_wp2_with fail
            refine (in_spec _ _ _ _).mono ?_
            rintro e w1 ⟨rfl, rfl⟩
            rw [e2]
            go_wp2_with fail
            go_roundw
            case rel => exact ⟨k + 1, by omega, by go_num, hok2.out, hst, ((hb.setCell hab _).setCell hab2 _)⟩
            case measure => simp [intOf]; omega
        · obtain rfl : k = l.length := by omega
          have hyes : takes n l = true := by simp [takes, e1, h200, hok'.out]
          have hY := hid hyes
          clear hyes
          rw [List.take_of_length_le (Nat.le_refl _)] at hown
          have hrange : Hid (∀ i, i < (exch (idn n.toNat) l).length → 0 ≤ nth (exch (idn n.toNat) l) i ∧ nth (exch (idn n.toNat) l) i < (exch (idn n.toNat) l).length) := by
            have := range_exch (l := idn n.toNat) (word := l) (P := fun x => 0 ≤ x ∧ x < n.toNat) (fun i hi => by have := wordOk_at hok'.out hi; simp; omega) (fun i hi => by simp at hi; rw [nth_idn (by omega)]; omega) l.length (Nat.le_refl _)
            rw [List.take_of_length_le (Nat.le_refl _)] at this
            intro i hi
            rw [length_exch, length_idn] at hi ⊢
            exact this i (by simpa using hi)
          go_wp2_with fail
          refine (inv_spec _ _ _ hown.reads (by simp; omega) hrange.out).mono ?_
          rintro e w2 ⟨y, rfl, hown2, hb2⟩
          go_wp2_with fail
          go_ret2
          exact ⟨_, by rw [hY.out]; rfl, by rw [hY.out]; exact hown2.mono hb.size, hb.trans (hb2.mono hb.size)⟩
    · have hno : takes n l = false := by simp [takes, h200]
      go_enter Try.func30, Try.ntmps30
      go_wp2_with fail
      refine (in_spec _ _ _ _).mono ?_
      rintro e w1 ⟨rfl, rfl⟩
      rw [e1]
      go_wp2_with fail
      go_ret2
      exact ⟨_, by rw [hno]; rfl, by rw [hno]; exact own_nil _ _ _, Below.refl _ _⟩

end Go.Proofs.Ytgibgcjpehcemaa
