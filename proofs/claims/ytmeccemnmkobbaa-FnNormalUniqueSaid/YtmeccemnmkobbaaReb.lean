/- Contracts: which normal forms are valid. -/
import Derived.Test.YtmeccemnmkobbaaRea
import Derived.Test.YtmeccemnmkobbaaSwp
import Derived.Test.YtmeccemnmkobbaaWpf
namespace Go.Proofs.Ytmeccemnmkobbaa
open Go.RowKit


set_option maxRecDepth 100000 in
set_option maxHeartbeats 1000000 in
theorem id4_spec (n : Int) (w : World) (h0 : 0 ≤ n) (h1 : n ≤ 1048576) :
    Calls Try.prog 109 #[.int .i64 n] w fun e w' => ∃ u, e = .returned u ∧ Own w' w.heap.size 2 u (ints (idn n.toNat)) ∧ Below w.heap.size w w' := by
  go_enter Try.func109, Try.ntmps109
  go_wp2_with fail
  go_loopw [3, 4] (fun u i wr => ∃ k : Nat, k ≤ n ∧ i = .int .i64 k ∧ Own wr w.heap.size 2 u (ints (idn k)) ∧ Below w.heap.size w wr) (fun _ i _ => n.toNat - (intOf i).toNat)
  case atStart =>
    exact ⟨0, by omega, rfl, own_empty w _ (Nat.le_refl _), (Below.refl _ _).alloc (Nat.le_refl _) _⟩
  case round =>
    obtain ⟨k, hk, rfl, hown, hb⟩ := hrel
    by_cases hlt : (k : Int) < n
    · obtain ⟨v', w', hr, hown', hb'⟩ := app_one (ty := 32) (x := .int .i64 k) sliceI infoI rfl hown rfl hb.size (by simp; omega) (by decide) hb (Nat.le_refl _)
      go_wp2_with (at_builtin; refine wpList_app hr rfl _ _ rfl rfl rfl ?_)
      go_roundw
      case rel => exact ⟨k + 1, by omega, by go_num, by rw [idn_succ]; simpa [ints] using hown', hb'⟩
      case measure => simp [intOf]; omega
    · go_wp2_with fail
      go_ret
      obtain rfl : n = k := by omega
      exact ⟨_, rfl, by simpa using hown, hb⟩



/-- whether factor i may stand in a normal form -/
def facOk (n : Int) (ls : List (List Int)) (i : Nat) : Bool := decide (((rat ls i).length : Int) = n) && okP (rat ls i) && !decide (rat ls i = idn n.toNat) && !decide (rat ls i = halfF n.toNat) && (i == 0 || extraF (rat ls (i - 1)) (rat ls i) == 0)
/-- whether a normal form is valid -/
def normB (n p : Int) (ls : List (List Int)) : Bool := inB n 0 12 && inB p (-100) 100 && decide (ls.length ≤ 100) && (decide (2 ≤ n) || p == 0) && (List.range ls.length).all (facOk n ls)
theorem facOk_of {n : Int} {ls : List (List Int)} {i : Nat} (h : facOk n ls i = true) : ((rat ls i).length : Int) = n ∧ okP (rat ls i) = true ∧ rat ls i ≠ idn n.toNat ∧ rat ls i ≠ halfF n.toNat ∧ (i = 0 ∨ extraF (rat ls (i - 1)) (rat ls i) = 0) := by
  simp [facOk] at h; obtain ⟨⟨⟨⟨a, b⟩, c⟩, d⟩, e⟩ := h; exact ⟨a, b, c, d, e⟩
theorem facOk_small {n : Int} (h : n < 2) (ls : List (List Int)) (i : Nat) : facOk n ls i = false := by
  cases e : facOk n ls i with
  | false => rfl
  | true =>
    obtain ⟨a, b, c, -⟩ := facOk_of e
    exact absurd (ext_nth (by simp; omega) fun j hj => by
      have hp := (okP_of b).2
      have h1 := hp.lo hj
      have h2 := hp.hi hj
      rw [nth_idn (by omega)]; omega) c
theorem all_no {f : Nat → Bool} {m i : Nat} (hi : i < m) (h : f i = false) : (List.range m).all f = false := by
  rw [List.all_eq_false]; exact ⟨i, by simpa using hi, by simp [h]⟩
theorem all_yes {f : Nat → Bool} {m : Nat} (h : ∀ i, i < m → f i = true) : (List.range m).all f = true := by
  rw [List.all_eq_true]; intro x hx; exact h x (by simpa using hx)
theorem normB_fac {n p : Int} {ls : List (List Int)} {i : Nat} (hi : i < ls.length) (h : facOk n ls i = false) : normB n p ls = false := by
  simp only [normB, all_no hi h, Bool.and_false]

set_option maxRecDepth 100000 in
set_option maxHeartbeats 4000000 in
theorem l04ok_spec (g : Nat) (n p : Int) (v : Value) (vs : List Value) (ls : List (List Int)) (w : World) (hB : Bx w g [.int .i64 n, .int .i64 p, v]) (hv : Reads w v vs) (hvr : RowsR w vs ls) :
    Calls Try.prog 54 #[.pointer (some ⟨g, 0, none⟩)] w fun e w' => e = .returned (.bool (normB n p ls)) ∧ Below w.heap.size w w' := by
  have hs := hv.small
  have hlen := hv.len (P := Try.prog) 22 3 ⟨_, sliceII⟩
  have ev := hvr.len
  rw [ev] at hs hlen
  have A0 := hB.cell 0 rfl
  have A1 := hB.cell 1 rfl
  have A2 := hB.cell 2 rfl
  cases e1 : inB n 0 12 with
  | false =>
    have hI1 := hid (fun w => by have := in_spec n 0 12 w; rw [e1] at this; exact this)
    go_enter Try.func54, Try.ntmps54
    go_wp2_with (go_at_call 98; refine (hI1.out _).mono ?_; rintro e w1 ⟨rfl, rfl⟩)
    go_ret
    exact ⟨by simp [normB, e1], Below.refl _ _⟩
  | true =>
  obtain ⟨n0, n12⟩ := inB_yes' e1
  have hI1 := hid (fun w => by have := in_spec n 0 12 w; rw [e1] at this; exact this)
  cases e2 : inB p (-100) 100 with
  | false =>
    have hI2 := hid (fun w => by have := in_spec p (-100) 100 w; rw [e2] at this; exact this)
    go_enter Try.func54, Try.ntmps54
    go_wp2_with fail
    refine (hI1.out _).mono ?_
    rintro e w1 ⟨rfl, rfl⟩
    go_wp2_with fail
    refine (hI2.out _).mono ?_
    rintro e w1 ⟨rfl, rfl⟩
    go_wp2_with fail
    go_ret
    exact ⟨by simp [normB, e2], Below.refl _ _⟩
  | true =>
  have hI2 := hid (fun w => by have := in_spec p (-100) 100 w; rw [e2] at this; exact this)
  by_cases e3 : ls.length ≤ 100
  case neg =>
    have hx : normB n p ls = false := by simp [normB, e3]
    go_enter Try.func54, Try.ntmps54
    go_wp2_with fail
    refine (hI1.out _).mono ?_
    rintro e w1 ⟨rfl, rfl⟩
    go_wp2_with fail
    refine (hI2.out _).mono ?_
    rintro e w1 ⟨rfl, rfl⟩
    go_wp2_with fail
    go_ret
    exact ⟨by first | rfl | (rw [hx]; rfl) | rw [hx], Below.refl _ _⟩
  case pos =>
  by_cases e4 : n < 2 ∧ (p ≠ 0 ∨ 0 < ls.length)
  case pos =>
    have hx : normB n p ls = false := by
      rcases e4.2 with h1 | h1
      · have h2 : (decide (2 ≤ n) || p == 0) = false := by simp [h1]; omega
        simp only [normB, h2, Bool.and_false, Bool.false_and]
      · exact normB_fac h1 (facOk_small e4.1 ls 0)
    obtain ⟨e4, e5⟩ := e4
    by_cases e6 : p = 0
    · have e7 : 0 < ls.length := by omega
      have e8 : (p != 0) = false := by simp [e6]
      clear e5 e6
      go_enter Try.func54, Try.ntmps54
      go_wp2_with fail
      refine (hI1.out _).mono ?_
      rintro e w1 ⟨rfl, rfl⟩
      go_wp2_with fail
      refine (hI2.out _).mono ?_
      rintro e w1 ⟨rfl, rfl⟩
      go_wp2_with fail
      go_ret
      exact ⟨by first | rfl | (rw [hx]; rfl) | rw [hx], Below.refl _ _⟩
    · have e8 : (p != 0) = true := by simpa using e6
      clear e5 e6
      go_enter Try.func54, Try.ntmps54
      go_wp2_with fail
      refine (hI1.out _).mono ?_
      rintro e w1 ⟨rfl, rfl⟩
      go_wp2_with fail
      refine (hI2.out _).mono ?_
      rintro e w1 ⟨rfl, rfl⟩
      go_wp2_with fail
      go_ret
      exact ⟨by first | rfl | (rw [hx]; rfl) | rw [hx], Below.refl _ _⟩
  case neg =>
  have hres : normB n p ls = (List.range ls.length).all (facOk n ls) := by
    have h2 : (decide (2 ≤ n) || p == 0) = true := by
      by_cases h3 : 2 ≤ n
      · simp [h3]
      · have : p = 0 := by
          by_cases h4 : p = 0
          · exact h4
          · exact absurd ⟨by omega, Or.inl h4⟩ e4
        simp [this]
    simp only [normB, e1, e2, h2, decide_eq_true e3, Bool.true_and]
  have go : ∀ {Q : Prop}, (2 ≤ n → Q) → (n < 2 → p = 0 → ls.length = 0 → Q) → Q := by
    intro Q h1 h2
    by_cases h3 : 2 ≤ n
    · exact h1 h3
    · exact h2 (by omega) (by by_cases h4 : p = 0; exact h4; exact absurd ⟨by omega, Or.inl h4⟩ e4) (by
        by_cases h4 : 0 < ls.length
        · exact absurd ⟨by omega, Or.inr h4⟩ e4
        · omega)
  clear e4
  refine go (fun e4 => ?_) (fun e4 e5 e6 => ?_)
  case refine_2 =>
    have hx : normB n p ls = true := by rw [hres, e6]; rfl
    have e8 : (p != 0) = false := by simp [e5]
    have e7 : ((ls.length : Nat) : Int) = 0 := by omega
    rw [e7] at hlen
    clear e5 hres go
    go_enter Try.func54, Try.ntmps54
    go_wp2_with fail
    refine (hI1.out _).mono ?_
    rintro e w1 ⟨rfl, rfl⟩
    go_wp2_with fail
    refine (hI2.out _).mono ?_
    rintro e w1 ⟨rfl, rfl⟩
    go_wp2_with fail
    go_loopw [3] (fun i wr => i = .int .i64 0 ∧ wr = w) (fun _ _ => 0)
    case atStart => exact ⟨rfl, rfl⟩
    case round =>
      obtain ⟨rfl, rfl⟩ := hrel
      go_wp2_with fail
      go_ret
      exact ⟨by first | rfl | (rw [hx]; rfl) | rw [hx], Below.refl _ _⟩
  case refine_1 =>
  clear go
  go_enter Try.func54, Try.ntmps54
  go_wp2_with fail
  refine (hI1.out _).mono ?_
  rintro e w1 ⟨rfl, rfl⟩
  go_wp2_with fail
  refine (hI2.out _).mono ?_
  rintro e w1 ⟨rfl, rfl⟩
  go_wp2_with fail
  clear A0 A1 A2
  go_loopw [3, 4] (fun i _ wr => ∃ j : Nat, j ≤ ls.length ∧ i = .int .i64 j ∧ (∀ t, t < j → facOk n ls t = true) ∧ Below w.heap.size w wr) (fun i _ _ => ls.length - (intOf i).toNat)
  case atStart => exact ⟨0, by omega, rfl, by omega, Below.refl _ _⟩
  case round =>
    obtain ⟨j, hj, rfl, hall, hb⟩ := hrel
    have hall := hid hall
    have A0 := (hB.below hb).cell 0 rfl
    have A2 := (hB.below hb).cell 2 rfl
    by_cases hlt : j < ls.length
    case neg =>
      obtain rfl : j = ls.length := by omega
      have hx : normB n p ls = true := by rw [hres]; exact all_yes hall.out
      go_wp2_with fail
      go_ret
      exact ⟨by first | rfl | (rw [hx]; rfl) | rw [hx], hb⟩
    case pos =>
    have hi := hv.idx 22 sliceII sizeSI .i64 j (by omega) (by omega)
    simp only [Int.toNat_natCast] at hi
    have hc := (hv.below hb).cell j _ (vat_of (by omega))
    have hrow := (hvr.below hb).row j hlt
    have hsr := hrow.small
    have hlr := hrow.len (P := Try.prog) 32 3 ⟨_, sliceI⟩
    simp only [length_ints] at hsr hlr
    clear ev
    by_cases f1 : ((rat ls j).length : Int) = n
    case neg =>
      have hx := normB_fac (p := p) hlt (by simp [facOk, f1] : facOk n ls j = false)
      have f1' : (((rat ls j).length : Int) != n) = true := by simpa using f1
      clear f1
      go_wp2_with fail
      go_ret
      exact ⟨by first | rfl | (rw [hx]; rfl) | rw [hx], hb⟩
    case pos =>
    have f1' : (((rat ls j).length : Int) != n) = false := by simpa using f1
    cases f2 : okP (rat ls j) with
    | false =>
      have hx := normB_fac (p := p) hlt (by simp [facOk, f2] : facOk n ls j = false)
      clear f1
      go_wp2_with fail
      refine (perm_spec _ _ _ hrow).mono ?_
      rintro e w1 ⟨rfl, hs1⟩
      rw [f2]
      go_wp2_with fail
      go_ret
      exact ⟨by first | rfl | (rw [hx]; rfl) | rw [hx], hb.trans (hs1.mono hb.size)⟩
    | true =>
    have hR := hid (okP_of f2).2.range
    by_cases f3 : rat ls j = idn n.toNat
    case pos =>
      have hx := normB_fac (p := p) hlt (by simp [facOk, f3] : facOk n ls j = false)
      have f3 := hid f3
      clear f1
      go_wp2_with fail
      refine (perm_spec _ _ _ hrow).mono ?_
      rintro e w1 ⟨rfl, hs1⟩
      rw [f2]
      have A0 := (hB.below (hb.trans (hs1.mono hb.size))).cell 0 rfl
      go_wp2_with fail
      refine (id4_spec n _ n0 (by omega)).mono ?_
      rintro e w2 ⟨u, rfl, hu, hs2⟩
      go_wp2_with fail
      refine (is_spec _ _ _ _ _ ((hrow.below hs1).below hs2) hu.reads).mono ?_
      rintro e w3 ⟨rfl, hs3⟩
      rw [decide_eq_true f3.out]
      go_wp2_with fail
      go_ret
      have b1 := hb.trans (hs1.mono hb.size)
      have b2 := b1.trans (hs2.mono b1.size)
      exact ⟨by first | rfl | (rw [hx]; rfl) | rw [hx], b2.trans (hs3.mono b2.size)⟩
    case neg =>
    by_cases f4 : rat ls j = halfF n.toNat
    case pos =>
      have hx := normB_fac (p := p) hlt (by simp [facOk, f4] : facOk n ls j = false)
      have f4 := hid f4
      have f3 := hid f3
      clear f1
      go_wp2_with fail
      refine (perm_spec _ _ _ hrow).mono ?_
      rintro e w1 ⟨rfl, hs1⟩
      rw [f2]
      have b1 := hb.trans (hs1.mono hb.size)
      have A0 := (hB.below b1).cell 0 rfl
      go_wp2_with fail
      refine (id4_spec n _ n0 (by omega)).mono ?_
      rintro e w2 ⟨u, rfl, hu, hs2⟩
      go_wp2_with fail
      refine (is_spec _ _ _ _ _ ((hrow.below hs1).below hs2) hu.reads).mono ?_
      rintro e w3 ⟨rfl, hs3⟩
      rw [decide_eq_false f3.out]
      have b2 := b1.trans (hs2.mono b1.size)
      have b3 := b2.trans (hs3.mono b2.size)
      clear A0
      have A0 := (hB.below b3).cell 0 rfl
      go_wp2_with fail
      refine (half_spec n _ n0 (by omega)).mono ?_
      rintro e w4 ⟨u', rfl, hu', hs4⟩
      go_wp2_with fail
      refine (is_spec _ _ _ _ _ ((((hrow.below hs1).below hs2).below hs3).below hs4) hu'.reads).mono ?_
      rintro e w5 ⟨rfl, hs5⟩
      rw [decide_eq_true f4.out]
      go_wp2_with fail
      go_ret
      have b4 := b3.trans (hs4.mono b3.size)
      exact ⟨by first | rfl | (rw [hx]; rfl) | rw [hx], b4.trans (hs5.mono b4.size)⟩
    case neg =>
    have f5 := hid (show facOk n ls j = (j == 0 || extraF (rat ls (j - 1)) (rat ls j) == 0) by simp [facOk, f1, f2, f3, f4])
    have f4 := hid f4
    have f3 := hid f3
    have f1 := hid f1
    go_wp2_with fail
    refine (perm_spec _ _ _ hrow).mono ?_
    rintro e w1 ⟨rfl, hs1⟩
    rw [f2]
    have b1 := hb.trans (hs1.mono hb.size)
    clear A0 A2
    have A0 := (hB.below b1).cell 0 rfl
    go_wp2_with fail
    refine (id4_spec n _ n0 (by omega)).mono ?_
    rintro e w2 ⟨u, rfl, hu, hs2⟩
    go_wp2_with fail
    refine (is_spec _ _ _ _ _ ((hrow.below hs1).below hs2) hu.reads).mono ?_
    rintro e w3 ⟨rfl, hs3⟩
    rw [decide_eq_false f3.out]
    have b2 := b1.trans (hs2.mono b1.size)
    have b3 := b2.trans (hs3.mono b2.size)
    clear A0
    have A0 := (hB.below b3).cell 0 rfl
    go_wp2_with fail
    refine (half_spec n _ n0 (by omega)).mono ?_
    rintro e w4 ⟨u', rfl, hu', hs4⟩
    go_wp2_with fail
    refine (is_spec _ _ _ _ _ ((((hrow.below hs1).below hs2).below hs3).below hs4) hu'.reads).mono ?_
    rintro e w5 ⟨rfl, hs5⟩
    rw [decide_eq_false f4.out]
    have b4 := b3.trans (hs4.mono b3.size)
    have b5 := b4.trans (hs5.mono b4.size)
    clear A0
    by_cases j0 : j = 0
    · subst j0
      go_wp2_with fail
      go_roundw
      case rel => exact ⟨0 + 1, by omega, by go_num, forall_snoc (p := fun t => facOk n ls t = true) hall.out (by rw [f5.out]; rfl), b5⟩
      case measure => simp [intOf]; omega
    · have hprev := facOk_of (hall.out (j - 1) (by omega))
      have hRp := (okP_of hprev.2.1).2.range
      have ev := hvr.len
      have hi2 := hv.idx 22 sliceII sizeSI .i64 (j - 1) (by omega) (by omega)
      have hk : (((j : Int) - 1).toNat) = j - 1 := by omega
      rw [hk] at hi2
      have A2 := (hB.below b5).cell 2 rfl
      have hc2 := (hv.below b5).cell (j - 1) _ (vat_of (by omega))
      have hl1 := hprev.1
      clear hprev ev
      go_wp2_with fail
      refine (extra_spec _ _ _ _ _ ((hvr.below b5).row (j - 1) (by omega)) ((hvr.below b5).row j hlt) (by omega) (by have := f1.out; omega) hRp).mono ?_
      rintro e w6 ⟨rfl, hs6⟩
      have b6 := b5.trans (hs6.mono b5.size)
      by_cases f6 : extraF (rat ls (j - 1)) (rat ls j) = 0
      · rw [f6]
        go_wp2_with fail
        go_roundw
        case rel => exact ⟨j + 1, by omega, by go_num, forall_snoc (p := fun t => facOk n ls t = true) hall.out (by rw [f5.out, f6]; simp), b6⟩
        case measure => simp [intOf]; omega
      · have f6' : (extraF (rat ls (j - 1)) (rat ls j) != 0) = true := by simpa using f6
        have hx := normB_fac (p := p) hlt (by rw [f5.out]; simp [j0, f6] : facOk n ls j = false)
        clear f6
        go_wp2_with fail
        go_ret
        exact ⟨by first | rfl | (rw [hx]; rfl) | rw [hx], b6⟩

set_option maxRecDepth 100000 in
set_option maxHeartbeats 1000000 in
theorem vn_spec (n p : Int) (v : Value) (ls : List (List Int)) (w : World) (h : ReadsII w v ls) :
    Calls Try.prog 14 #[.agg #[.int .i64 n, .int .i64 p, v]] w fun e w' => e = .returned (.bool (normB n p ls)) ∧ Below w.heap.size w w' := by
  obtain ⟨vs, hv, hvr⟩ := h.alloc (.cells #[.int .i64 n, .int .i64 p, v] 27)
  have hB := Bx.new w #[.int .i64 n, .int .i64 p, v] 27
  have hbox : Below w.heap.size w (w.alloc (.cells #[.int .i64 n, .int .i64 p, v] 27)) := (Below.refl _ _).alloc (Nat.le_refl _) _
  go_enter Try.func14, Try.ntmps14
  go_wp2_with fail
  refine (l04ok_spec _ n p v vs ls _ hB hv hvr).mono ?_
  rintro e w1 ⟨rfl, hs⟩
  go_wp2_with fail
  go_ret
  exact ⟨rfl, hbox.trans (hs.mono hbox.size)⟩


set_option maxRecDepth 100000 in
set_option maxHeartbeats 4000000 in
theorem vn_impl (n p : Int) (v : Value) (ls : List (List Int)) (w0 : World) (h : ReadsII w0 v ls) :
    Calls Try.prog 16 #[.agg #[.int .i64 n, .int .i64 p, v]] w0 fun e w' => e = .returned (.bool (normB n p ls)) ∧ Below w0.heap.size w0 w' := by
  obtain ⟨vs, hv, hvr⟩ := h.alloc (.cells #[.int .i64 n, .int .i64 p, v] 27)
  have hB := Bx.new w0 #[.int .i64 n, .int .i64 p, v] 27
  have hbox : Below w0.heap.size w0 (w0.alloc (.cells #[.int .i64 n, .int .i64 p, v] 27)) := (Below.refl _ _).alloc (Nat.le_refl _) _
  have hs := hv.small
  have hlen := hv.len (P := Try.prog) 22 3 ⟨_, sliceII⟩
  have ev := hvr.len
  rw [ev] at hs hlen
  have A0 := hB.cell 0 rfl
  have A1 := hB.cell 1 rfl
  have A2 := hB.cell 2 rfl
  cases e1 : inB n 0 12 with
  | false =>
    have hI1 := hid (fun w => by have := strands_impl n w; rw [e1] at this; exact this)
    go_enter Try.func16, Try.ntmps16
    go_wp2_with fail
    refine (hI1.out _).mono ?_
    rintro e w1 ⟨rfl, rfl⟩
    go_wp2_with fail
    go_ret
    exact ⟨by simp [normB, e1], hbox⟩
  | true =>
  obtain ⟨n0, n12⟩ := inB_yes' e1
  have hI1 := hid (fun w => by have := strands_impl n w; rw [e1] at this; exact this)
  cases e2 : inB p (-100) 100 with
  | false =>
    have hI2 := hid (fun w => by have := in_impl p (-100) 100 w; rw [e2] at this; exact this)
    go_enter Try.func16, Try.ntmps16
    go_wp2_with fail
    refine (hI1.out _).mono ?_
    rintro e w1 ⟨rfl, rfl⟩
    go_wp2_with fail
    refine (hI2.out _).mono ?_
    rintro e w1 ⟨rfl, rfl⟩
    go_wp2_with fail
    go_ret
    exact ⟨by simp [normB, e2], hbox⟩
  | true =>
  have hI2 := hid (fun w => by have := in_impl p (-100) 100 w; rw [e2] at this; exact this)
  by_cases e3 : ls.length ≤ 100
  case neg =>
    have hx : normB n p ls = false := by simp [normB, e3]
    go_enter Try.func16, Try.ntmps16
    go_wp2_with fail
    refine (hI1.out _).mono ?_
    rintro e w1 ⟨rfl, rfl⟩
    go_wp2_with fail
    refine (hI2.out _).mono ?_
    rintro e w1 ⟨rfl, rfl⟩
    go_wp2_with fail
    go_ret
    exact ⟨by first | rfl | (rw [hx]; rfl) | rw [hx], hbox⟩
  case pos =>
  have hres : (∀ t, t < ls.length → facOk n ls t = true) → normB n p ls = (decide (2 ≤ n) || p == 0) := by
    intro hall
    simp only [normB, e1, e2, all_yes hall, decide_eq_true e3, Bool.true_and, Bool.and_true]
  go_enter Try.func16, Try.ntmps16
  go_wp2_with fail
  refine (hI1.out _).mono ?_
  rintro e w1 ⟨rfl, rfl⟩
  go_wp2_with fail
  refine (hI2.out _).mono ?_
  rintro e w1 ⟨rfl, rfl⟩
  go_wp2_with fail
  have hsz : w0.heap.size ≤ (w0.alloc (.cells #[.int .i64 n, .int .i64 p, v] 27)).heap.size := by simp
  generalize hW : (w0.alloc (.cells #[.int .i64 n, .int .i64 p, v] 27)) = w at *
  clear A0 A1 A2 hW
  go_loopw [3, 4, 24] (fun _ _ i wr => ∃ j : Nat, j ≤ ls.length ∧ i = .int .i64 j ∧ (∀ t, t < j → facOk n ls t = true) ∧ Below w.heap.size w wr) (fun _ _ i _ => ls.length - (intOf i).toNat)
  case atStart => exact ⟨0, by omega, rfl, by omega, Below.refl _ _⟩
  case round =>
    obtain ⟨j, hj, rfl, hall, hb⟩ := hrel
    have hall := hid hall
    have A0 := (hB.below hb).cell 0 rfl
    have A1 := (hB.below hb).cell 1 rfl
    have A2 := (hB.below hb).cell 2 rfl
    by_cases hlt : j < ls.length
    case neg =>
      obtain rfl : j = ls.length := by omega
      by_cases h2 : 2 ≤ n
      · have hx : normB n p ls = true := by rw [hres hall.out]; simp [h2]
        go_wp2_with fail
        go_ret
        exact ⟨by first | rfl | (rw [hx]; rfl) | rw [hx], hbox.trans (hb.mono hsz)⟩
      · cases h3 : (p == 0) with
        | true =>
          have hx : normB n p ls = true := by rw [hres hall.out, h3]; simp
          go_wp2_with fail
          go_ret
          exact ⟨by first | rfl | (rw [hx]; rfl) | rw [hx], hbox.trans (hb.mono hsz)⟩
        | false =>
          have hx : normB n p ls = false := by rw [hres hall.out, h3]; simp; omega
          go_wp2_with fail
          go_ret
          exact ⟨by first | rfl | (rw [hx]; rfl) | rw [hx], hbox.trans (hb.mono hsz)⟩
    case pos =>
    have hi := hv.idx 22 sliceII sizeSI .i64 j (by omega) (by omega)
    simp only [Int.toNat_natCast] at hi
    have hc := (hv.below hb).cell j _ (vat_of (by omega))
    have hrow := (hvr.below hb).row j hlt
    have hsr := hrow.small
    have hlr := hrow.len (P := Try.prog) 32 3 ⟨_, sliceI⟩
    simp only [length_ints] at hsr hlr
    clear ev hres A0 A1 A2
    cases f2 : okP (rat ls j) with
    | false =>
      have hx := normB_fac (p := p) hlt (by simp [facOk, f2] : facOk n ls j = false)
      go_wp2_with fail
      refine (ok_impl _ _ _ hrow).mono ?_
      rintro e w1 ⟨rfl, hs1⟩
      rw [f2]
      go_wp2_with fail
      go_ret
      exact ⟨by first | rfl | (rw [hx]; rfl) | rw [hx], hbox.trans ((hb.trans (hs1.mono hb.size)).mono hsz)⟩
    | true =>
    have hR := hid (okP_of f2).2.range
    go_wp2_with fail
    refine (ok_impl _ _ _ hrow).mono ?_
    rintro e w1 ⟨rfl, hs1⟩
    rw [f2]
    have b1 := hb.trans (hs1.mono hb.size)
    have A0 := (hB.below b1).cell 0 rfl
    by_cases f1 : ((rat ls j).length : Int) = n
    case neg =>
      have hx := normB_fac (p := p) hlt (by simp [facOk, f1] : facOk n ls j = false)
      have f1' : (((rat ls j).length : Int) != n) = true := by simpa using f1
      clear f1
      go_wp2_with fail
      go_ret
      exact ⟨by first | rfl | (rw [hx]; rfl) | rw [hx], hbox.trans (b1.mono hsz)⟩
    case pos =>
    have f1' : (((rat ls j).length : Int) != n) = false := by simpa using f1
    by_cases f3 : rat ls j = idn n.toNat
    case pos =>
      have hx := normB_fac (p := p) hlt (by simp [facOk, f3] : facOk n ls j = false)
      have f3 := hid f3
      have f1 := hid f1
      go_wp2_with fail
      refine (idn_impl n _ n0 (by omega)).mono ?_
      rintro e w2 ⟨u, rfl, hu, hs2⟩
      go_wp2_with fail
      refine (equal_impl _ _ _ _ _ ((hrow.below hs1).below hs2) hu.reads).mono ?_
      rintro e w3 ⟨rfl, hs3⟩
      rw [decide_eq_true f3.out]
      go_wp2_with fail
      go_ret
      have b2 := b1.trans (hs2.mono b1.size)
      exact ⟨by first | rfl | (rw [hx]; rfl) | rw [hx], hbox.trans ((b2.trans (hs3.mono b2.size)).mono hsz)⟩
    case neg =>
    by_cases f4 : rat ls j = halfF n.toNat
    case pos =>
      have hx := normB_fac (p := p) hlt (by simp [facOk, f4] : facOk n ls j = false)
      have f4 := hid f4
      have f3 := hid f3
      have f1 := hid f1
      go_wp2_with fail
      refine (idn_impl n _ n0 (by omega)).mono ?_
      rintro e w2 ⟨u, rfl, hu, hs2⟩
      go_wp2_with fail
      refine (equal_impl _ _ _ _ _ ((hrow.below hs1).below hs2) hu.reads).mono ?_
      rintro e w3 ⟨rfl, hs3⟩
      rw [decide_eq_false f3.out]
      have b2 := b1.trans (hs2.mono b1.size)
      have b3 := b2.trans (hs3.mono b2.size)
      clear A0
      have A0 := (hB.below b3).cell 0 rfl
      go_wp2_with fail
      refine (half_impl n _ n0 (by omega)).mono ?_
      rintro e w4 ⟨u', rfl, hu', hs4⟩
      go_wp2_with fail
      refine (equal_impl _ _ _ _ _ ((((hrow.below hs1).below hs2).below hs3).below hs4) hu'.reads).mono ?_
      rintro e w5 ⟨rfl, hs5⟩
      rw [decide_eq_true f4.out]
      go_wp2_with fail
      go_ret
      have b4 := b3.trans (hs4.mono b3.size)
      exact ⟨by first | rfl | (rw [hx]; rfl) | rw [hx], hbox.trans ((b4.trans (hs5.mono b4.size)).mono hsz)⟩
    case neg =>
    have f5 := hid (show facOk n ls j = (j == 0 || extraF (rat ls (j - 1)) (rat ls j) == 0) by simp [facOk, f1, f2, f3, f4])
    have f4 := hid f4
    have f3 := hid f3
    have f1 := hid f1
    go_wp2_with fail
    refine (idn_impl n _ n0 (by omega)).mono ?_
    rintro e w2 ⟨u, rfl, hu, hs2⟩
    go_wp2_with fail
    refine (equal_impl _ _ _ _ _ ((hrow.below hs1).below hs2) hu.reads).mono ?_
    rintro e w3 ⟨rfl, hs3⟩
    rw [decide_eq_false f3.out]
    have b2 := b1.trans (hs2.mono b1.size)
    have b3 := b2.trans (hs3.mono b2.size)
    clear A0
    have A0 := (hB.below b3).cell 0 rfl
    go_wp2_with fail
    refine (half_impl n _ n0 (by omega)).mono ?_
    rintro e w4 ⟨u', rfl, hu', hs4⟩
    go_wp2_with fail
    refine (equal_impl _ _ _ _ _ ((((hrow.below hs1).below hs2).below hs3).below hs4) hu'.reads).mono ?_
    rintro e w5 ⟨rfl, hs5⟩
    rw [decide_eq_false f4.out]
    have b4 := b3.trans (hs4.mono b3.size)
    have b5 := b4.trans (hs5.mono b4.size)
    clear A0
    by_cases j0 : j = 0
    · subst j0
      go_wp2_with fail
      go_roundw
      case rel => exact ⟨0 + 1, by omega, by go_num, forall_snoc (p := fun t => facOk n ls t = true) hall.out (by rw [f5.out]; rfl), b5⟩
      case measure => simp [intOf]; omega
    · have hprev := facOk_of (hall.out (j - 1) (by omega))
      have hRp := (okP_of hprev.2.1).2.range
      have ev := hvr.len
      have hi2 := hv.idx 22 sliceII sizeSI .i64 (j - 1) (by omega) (by omega)
      have hk : (((j : Int) - 1).toNat) = j - 1 := by omega
      rw [hk] at hi2
      have A2 := (hB.below b5).cell 2 rfl
      have hc2 := (hv.below b5).cell (j - 1) _ (vat_of (by omega))
      have hl1 := hprev.1
      clear hprev ev
      go_wp2_with fail
      refine (missing_impl _ _ _ _ _ ((hvr.below b5).row (j - 1) (by omega)) ((hvr.below b5).row j hlt) (by omega) (by have := f1.out; omega) hRp).mono ?_
      rintro e w6 ⟨rfl, hs6⟩
      have b6 := b5.trans (hs6.mono b5.size)
      by_cases f6 : extraF (rat ls (j - 1)) (rat ls j) = 0
      · rw [f6]
        go_wp2_with fail
        go_roundw
        case rel => exact ⟨j + 1, by omega, by go_num, forall_snoc (p := fun t => facOk n ls t = true) hall.out (by rw [f5.out, f6]; simp), b6⟩
        case measure => simp [intOf]; omega
      · have f6' : (extraF (rat ls (j - 1)) (rat ls j) != 0) = true := by simpa using f6
        have hx := normB_fac (p := p) hlt (by rw [f5.out]; simp [j0, f6] : facOk n ls j = false)
        clear f6
        go_wp2_with fail
        go_ret
        exact ⟨by first | rfl | (rw [hx]; rfl) | rw [hx], hbox.trans (b6.mono hsz)⟩


end Go.Proofs.Ytmeccemnmkobbaa
