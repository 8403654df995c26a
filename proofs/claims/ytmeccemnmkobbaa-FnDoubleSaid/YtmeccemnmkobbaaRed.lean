/- Contracts: the normal form of a word, in the reference. -/
import Derived.Test.YtmeccemnmkobbaaSt
import Derived.Test.YtmeccemnmkobbaaNob
import Derived.Test.YtmeccemnmkobbaaRwb
import Derived.Test.YtmeccemnmkobbaaBrd
import Derived.Deep.RegionHeld3
import Derived.Deep.LoopGhost
import Derived.Test.YtmeccemnmkobbaaSwp
import Derived.Test.YtmeccemnmkobbaaWpf
import Derived.Test.YtmeccemnmkobbaaBre
namespace Go.Proofs.Ytmeccemnmkobbaa
open Go.RowKit
open Pm

theorem swv_step {l : List Int} {k : Int} {j : Nat} (hj : j < l.length) : ((l.map (swv k)).take j ++ l.drop j).set j (swv k (nth l j)) = (l.map (swv k)).take (j + 1) ++ l.drop (j + 1) := by
  have h1 : ((l.map (swv k)).take j).length = j := by simp; omega
  rw [List.set_append_right _ _ (by omega), h1, Nat.sub_self, List.drop_eq_getElem_cons hj, List.set_cons_zero, List.take_add_one, nth_of (by simpa using hj), nth_map _ hj]
  simp
theorem swv_keep {l : List Int} {k : Int} {j : Nat} (hj : j < l.length) (h1 : nth l j ≠ k - 1) (h2 : nth l j ≠ k) : (l.map (swv k)).take (j + 1) ++ l.drop (j + 1) = (l.map (swv k)).take j ++ l.drop j := by
  rw [← swv_step hj]
  have e : swv k (nth l j) = nth ((l.map (swv k)).take j ++ l.drop j) j := by
    have h3 : ((l.map (swv k)).take j).length = j := by simp; omega
    have e0 : swv k (nth l j) = nth l j := by unfold swv; rw [if_neg h1, if_neg h2]
    rw [e0]
    unfold nth
    rw [List.getElem?_append_right (by omega), h3, Nat.sub_self, List.getElem?_drop, Nat.add_zero]
  rw [e]
  have hl : j < ((l.map (swv k)).take j ++ l.drop j).length := by simp; omega
  unfold nth
  rw [List.getElem?_eq_getElem hl]
  simp

set_option maxRecDepth 100000 in
set_option maxHeartbeats 2000000 in
theorem behind_spec (k : Int) (v : Value) (l : List Int) (w : World) (h : Reads w v (ints l)) (hl : l.length ≤ 1048576) (k0 : 1 ≤ k) (k1 : k ≤ 1048576) :
    Calls Try.prog 130 #[v, .int .i64 k] w fun e w' => ∃ u, e = .returned u ∧ Own w' w.heap.size 2 u (ints (l.map (swv k))) ∧ Below w.heap.size w w' := by
  have hs := h.small
  have hlen := h.len (P := Try.prog) 32 3 ⟨_, sliceI⟩
  simp only [length_ints] at hs hlen
  go_enter Try.func130, Try.ntmps130
  go_wp2_with fail
  refine (own_copy _ _ _ h hl).mono ?_
  rintro e w1 ⟨x, rfl, hx, hb1⟩
  go_wp2_with fail
  go_loopw [6] (fun i wr => ∃ j : Nat, j ≤ l.length ∧ i = .int .i64 j ∧ Own wr w.heap.size 2 x (ints ((l.map (swv k)).take j ++ l.drop j)) ∧ Below w.heap.size w wr) (fun i _ => l.length - (intOf i).toNat)
  case atStart => exact ⟨0, by omega, rfl, by simpa using hx, hb1⟩
  case round =>
    clear hx hb1
    obtain ⟨j, hj, rfl, hown, hb⟩ := hrel
    have hll : ((l.map (swv k)).take j ++ l.drop j).length = l.length := by simp; omega
    by_cases hlt : j < l.length
    · have hi := h.idx 32 sliceI sizeI .i64 j (by omega) (by simpa using hlt)
      have hi2 := hown.reads.idx 32 sliceI sizeI .i64 j (by omega) (by simp; omega)
      simp only [Int.toNat_natCast] at hi hi2
      have hc := (h.below hb).int hlt
      have hd := hown.reads.cell j _ (ints_at (by omega))
      have hf := hown.frozen (i := j) (by simp; omega)
      have hab := hown.adr_blk (i := j) (by simp; omega)
      have hvb : (adr v j).block < w.heap.size := h.spot j _ (h.int hlt)
      have hnv : adr x j ≠ adr v j := fun e => by have := hab.2.1; rw [e] at this; omega
      have hst := hown.set (i := j) (by simp; omega) (.int .i64 (swv k (nth l j)))
      rw [ints_set, swv_step hlt] at hst
      by_cases e1 : nth l j = k - 1
      · have es : swv k (nth l j) = k := by unfold swv; rw [if_pos e1]
        rw [es] at hst
        have hc' := (World.cell?_setCell_other wr (adr x j) (adr v j) (.int .i64 k) hnv).trans hc
        rw [e1] at hc hc'
        have n1 : (k - 1 == k) = false := by rw [beq_eq_false_iff_ne]; omega
        have n2 : (k - 1 == k - 1) = true := by simp
        have hst' := hid hst
        clear hst es e1 hll hnv hvb
        go_wp2_with fail
        go_roundw
        case rel => exact ⟨j + 1, by omega, by go_num, hst'.out, hb.setCell hab.2.1 _⟩
        case measure => simp [intOf]; omega
      · by_cases e2 : nth l j = k
        · have es : swv k (nth l j) = k - 1 := by unfold swv; rw [if_neg e1, if_pos e2]
          rw [es] at hst
          rw [e2] at hc
          have n1 : (k == k - 1) = false := by rw [beq_eq_false_iff_ne]; omega
          have n2 : (k == k) = true := by simp
          have hst' := hid hst
          clear hst es e1 e2 hll hnv hvb
          go_wp2_with fail
          go_roundw
          case rel => exact ⟨j + 1, by omega, by go_num, hst'.out, hb.setCell hab.2.1 _⟩
          case measure => simp [intOf]; omega
        · have hk := hid (swv_keep (l := l) (k := k) hlt e1 e2)
          have n1 : (nth l j == k - 1) = false := by rw [beq_eq_false_iff_ne]; exact e1
          have n2 : (nth l j == k) = false := by rw [beq_eq_false_iff_ne]; exact e2
          have hown' := hid hown
          clear hst e1 e2 hll hnv hvb hown
          go_wp2_with fail
          go_roundw
          case rel => exact ⟨j + 1, by omega, by go_num, by rw [hk.out]; exact hown'.out, hb⟩
          case measure => simp [intOf]; omega
    · obtain rfl : j = l.length := by omega
      rw [List.take_of_length_le (by simp), List.drop_of_length_le (Nat.le_refl _), List.append_nil] at hown
      go_wp2_with fail
      go_ret
      exact ⟨_, rfl, hown, hb⟩

set_option maxRecDepth 100000 in
set_option maxHeartbeats 1000000 in
theorem is_spec (v u : Value) (l m : List Int) (w : World) (h : Reads w v (ints l)) (h' : Reads w u (ints m)) :
    Calls Try.prog 108 #[v, u] w fun e w' => e = .returned (.bool (decide (l = m))) ∧ Below w.heap.size w w' := by
  go_enter Try.func108, Try.ntmps108
  go_wp2_with fail
  refine (l00same_spec _ _ _ _ _ h h').mono ?_
  rintro e w1 ⟨rfl, hs⟩
  go_wp2_with fail
  go_ret
  exact ⟨rfl, hs⟩

/-- rows that can be read, all in blocks from lo on -/
structure RowsB (w : World) (lo : Nat) (vs : List Value) (ls : List (List Int)) : Prop where
  rows : RowsR w vs ls
  blks : ∀ i, i < ls.length → ∀ k, blk (vat vs i) = some k → lo ≤ k ∧ k < w.heap.size
theorem RowsB.below {w w' : World} {lo : Nat} {vs : List Value} {ls : List (List Int)} (h : RowsB w lo vs ls) (hb : Below w.heap.size w w') : RowsB w' lo vs ls :=
  ⟨h.rows.below hb, fun i hi k hk => by have := h.blks i hi k hk; have := hb.size; omega⟩
theorem vat_set {vs : List Value} {i : Nat} (h : i < vs.length) (u : Value) (j : Nat) : vat (vs.set i u) j = if i = j then u else vat vs j := by
  unfold vat; rw [List.getElem?_set]
  by_cases e : i = j
  · subst e; simp [h]
  · simp [e]
theorem rat_set {ls : List (List Int)} {i : Nat} (h : i < ls.length) (l : List Int) (j : Nat) : rat (ls.set i l) j = if i = j then l else rat ls j := by
  unfold rat; rw [List.getElem?_set]
  by_cases e : i = j
  · subst e; simp [h]
  · simp [e]
/-- a row of the call's own outer slice is replaced -/
theorem RowsB.set {w w' : World} {lo B : Nat} {eo ei : TypeId} {f : Value} {vs : List Value} {ls : List (List Int)} (h : RowsB w lo vs ls) (hf : Own w B eo f vs) (hap : ∀ i, i < ls.length → Apart (vat vs i) f) (hb : Below w.heap.size w w') {i : Nat} (hi : i < ls.length) {u : Value} {l : List Int}
    (hu : Own w' w.heap.size ei u (ints l)) (hlo : lo ≤ w.heap.size) :
    Own (w'.setCell (adr f i) u) B eo f (vs.set i u) ∧ RowsB (w'.setCell (adr f i) u) lo (vs.set i u) (ls.set i l) ∧ (∀ j, j < (ls.set i l).length → Apart (vat (vs.set i u) j) f) := by
  have hvl := h.rows.len
  have hiv : i < vs.length := by omega
  have hfb := (hf.below hb).adr_blk hiv
  have hfw := (hf.adr_blk hiv)
  have hapu : Apart u f := apart_new' hf hu
  have hkeep : ∀ {v : Value} {xs : List Value}, Reads w' v xs → Apart v f → Reads (w'.setCell (adr f i) u) v xs := fun hr ha =>
    hr.keep fun k hk _ => Below.heap_setCell _ _ _ _ (fun e => ha k hk (by rw [e]; exact hfw.1.symm))
  have hsz : (w'.setCell (adr f i) u).heap.size = w'.heap.size := by simp [World.setCell]
  refine ⟨(hf.below hb).set hiv u, ⟨⟨by simpa using hvl, fun j hj => ?_⟩, fun j hj k hk => ?_⟩, fun j hj => ?_⟩
  · rw [List.length_set] at hj
    rw [vat_set hiv, rat_set hi]
    by_cases e : i = j
    · rw [if_pos e, if_pos e]; exact hkeep hu.reads hapu
    · rw [if_neg e, if_neg e]; exact hkeep ((h.rows.row j hj).below hb) (hap j hj)
  · rw [List.length_set] at hj
    rw [vat_set hiv] at hk
    rw [hsz]
    by_cases e : i = j
    · rw [if_pos e] at hk; have := hu.blk_lt hk; omega
    · rw [if_neg e] at hk; have := h.blks j hj k hk; have := hb.size; omega
  · rw [List.length_set] at hj
    rw [vat_set hiv]
    by_cases e : i = j
    · rw [if_pos e]; exact hapu
    · rw [if_neg e]; exact hap j hj


end Go.Proofs.Ytmeccemnmkobbaa

namespace Go.Proofs.Ytmeccemnmkobbaa
open Go.RowKit


set_option maxRecDepth 100000 in
set_option maxHeartbeats 1000000 in
theorem id4_spec (n : Int) (w : World) (h0 : 0 ≤ n) (h1 : n ≤ 1048576) :
    Calls Try.prog 109 #[.int .i64 n] w fun e w' => ∃ u, e = .returned u ∧ Own w' w.heap.size 2 u (ints (idn n.toNat)) ∧ Below w.heap.size w w' := by
  go_enter Try.func109, Try.ntmps109
  go_wp2_with fail
  go_loopw [3, 4] (fun u i wr => ∃ k : Nat, k ≤ n ∧ i = .int .i64 k ∧ Own wr w.heap.size 2 u (ints (idn k)) ∧ Below w.heap.size w wr) (fun _ i _ => n.toNat - (intOf i).toNat)
  case atStart =>
    exact ⟨0, by omega, rfl, own_empty w _ (Nat.le_refl _), (Below.refl _ _).alloc (Nat.le_refl _) _⟩
  case round =>
    obtain ⟨k, hk, rfl, hown, hb⟩ := hrel
    by_cases hlt : (k : Int) < n
    · obtain ⟨v', w', hr, hown', hb'⟩ := app_one (ty := 32) (x := .int .i64 k) sliceI infoI rfl hown rfl hb.size (by simp; omega) (by decide) hb (Nat.le_refl _)
      go_wp2_with (at_builtin; refine wpList_app hr rfl _ _ rfl rfl rfl ?_)
      go_roundw
      case rel => exact ⟨k + 1, by omega, by go_num, by rw [idn_succ]; simpa [ints] using hown', hb'⟩
      case measure => simp [intOf]; omega
    · go_wp2_with fail
      go_ret
      obtain rfl : n = k := by omega
      exact ⟨_, rfl, by simpa using hown, hb⟩



/-- whether factor i may stand in a normal form -/
def facOk (n : Int) (ls : List (List Int)) (i : Nat) : Bool := decide (((rat ls i).length : Int) = n) && okP (rat ls i) && !decide (rat ls i = idn n.toNat) && !decide (rat ls i = halfF n.toNat) && (i == 0 || extraF (rat ls (i - 1)) (rat ls i) == 0)
/-- whether a normal form is valid -/
def normB (n p : Int) (ls : List (List Int)) : Bool := inB n 0 12 && inB p (-100) 100 && decide (ls.length ≤ 100) && (decide (2 ≤ n) || p == 0) && (List.range ls.length).all (facOk n ls)
theorem facOk_of {n : Int} {ls : List (List Int)} {i : Nat} (h : facOk n ls i = true) : ((rat ls i).length : Int) = n ∧ okP (rat ls i) = true ∧ rat ls i ≠ idn n.toNat ∧ rat ls i ≠ halfF n.toNat ∧ (i = 0 ∨ extraF (rat ls (i - 1)) (rat ls i) = 0) := by
  simp [facOk] at h; obtain ⟨⟨⟨⟨a, b⟩, c⟩, d⟩, e⟩ := h; exact ⟨a, b, c, d, e⟩
theorem facOk_small {n : Int} (h : n < 2) (ls : List (List Int)) (i : Nat) : facOk n ls i = false := by
  cases e : facOk n ls i with
  | false => rfl
  | true =>
    obtain ⟨a, b, c, -⟩ := facOk_of e
    exact absurd (ext_nth (by simp; omega) fun j hj => by
      have hp := (okP_of b).2
      have h1 := hp.lo hj
      have h2 := hp.hi hj
      rw [nth_idn (by omega)]; omega) c
theorem all_no {f : Nat → Bool} {m i : Nat} (hi : i < m) (h : f i = false) : (List.range m).all f = false := by
  rw [List.all_eq_false]; exact ⟨i, by simpa using hi, by simp [h]⟩
theorem all_yes {f : Nat → Bool} {m : Nat} (h : ∀ i, i < m → f i = true) : (List.range m).all f = true := by
  rw [List.all_eq_true]; intro x hx; exact h x (by simpa using hx)
theorem normB_fac {n p : Int} {ls : List (List Int)} {i : Nat} (hi : i < ls.length) (h : facOk n ls i = false) : normB n p ls = false := by
  simp only [normB, all_no hi h, Bool.and_false]

set_option maxRecDepth 100000 in
set_option maxHeartbeats 4000000 in
theorem l04ok_spec (g : Nat) (n p : Int) (v : Value) (vs : List Value) (ls : List (List Int)) (w : World) (hB : Bx w g [.int .i64 n, .int .i64 p, v]) (hv : Reads w v vs) (hvr : RowsR w vs ls) :
    Calls Try.prog 54 #[.pointer (some ⟨g, 0, none⟩)] w fun e w' => e = .returned (.bool (normB n p ls)) ∧ Below w.heap.size w w' := by
  have hs := hv.small
  have hlen := hv.len (P := Try.prog) 22 3 ⟨_, sliceII⟩
  have ev := hvr.len
  rw [ev] at hs hlen
  have A0 := hB.cell 0 rfl
  have A1 := hB.cell 1 rfl
  have A2 := hB.cell 2 rfl
  cases e1 : inB n 0 12 with
  | false =>
    have hI1 := hid (fun w => by have := in_spec n 0 12 w; rw [e1] at this; exact this)
    go_enter Try.func54, Try.ntmps54
    go_wp2_with (go_at_call 98; refine (hI1.out _).mono ?_; rintro e w1 ⟨rfl, rfl⟩)
    go_ret
    exact ⟨by simp [normB, e1], Below.refl _ _⟩
  | true =>
  obtain ⟨n0, n12⟩ := inB_yes' e1
  have hI1 := hid (fun w => by have := in_spec n 0 12 w; rw [e1] at this; exact this)
  cases e2 : inB p (-100) 100 with
  | false =>
    have hI2 := hid (fun w => by have := in_spec p (-100) 100 w; rw [e2] at this; exact this)
    go_enter Try.func54, Try.ntmps54
    go_wp2_with fail
    refine (hI1.out _).mono ?_
    rintro e w1 ⟨rfl, rfl⟩
    go_wp2_with fail
    refine (hI2.out _).mono ?_
    rintro e w1 ⟨rfl, rfl⟩
    go_wp2_with fail
    go_ret
    exact ⟨by simp [normB, e2], Below.refl _ _⟩
  | true =>
  have hI2 := hid (fun w => by have := in_spec p (-100) 100 w; rw [e2] at this; exact this)
  by_cases e3 : ls.length ≤ 100
  case neg =>
    have hx : normB n p ls = false := by simp [normB, e3]
    go_enter Try.func54, Try.ntmps54
    go_wp2_with fail
    refine (hI1.out _).mono ?_
    rintro e w1 ⟨rfl, rfl⟩
    go_wp2_with fail
    refine (hI2.out _).mono ?_
    rintro e w1 ⟨rfl, rfl⟩
    go_wp2_with fail
    go_ret
    exact ⟨by first | rfl | (rw [hx]; rfl) | rw [hx], Below.refl _ _⟩
  case pos =>
  by_cases e4 : n < 2 ∧ (p ≠ 0 ∨ 0 < ls.length)
  case pos =>
    have hx : normB n p ls = false := by
      rcases e4.2 with h1 | h1
      · have h2 : (decide (2 ≤ n) || p == 0) = false := by simp [h1]; omega
        simp only [normB, h2, Bool.and_false, Bool.false_and]
      · exact normB_fac h1 (facOk_small e4.1 ls 0)
    obtain ⟨e4, e5⟩ := e4
    by_cases e6 : p = 0
    · have e7 : 0 < ls.length := by omega
      have e8 : (p != 0) = false := by simp [e6]
      clear e5 e6
      go_enter Try.func54, Try.ntmps54
      go_wp2_with fail
      refine (hI1.out _).mono ?_
      rintro e w1 ⟨rfl, rfl⟩
      go_wp2_with fail
      refine (hI2.out _).mono ?_
      rintro e w1 ⟨rfl, rfl⟩
      go_wp2_with fail
      go_ret
      exact ⟨by first | rfl | (rw [hx]; rfl) | rw [hx], Below.refl _ _⟩
    · have e8 : (p != 0) = true := by simpa using e6
      clear e5 e6
      go_enter Try.func54, Try.ntmps54
      go_wp2_with fail
      refine (hI1.out _).mono ?_
      rintro e w1 ⟨rfl, rfl⟩
      go_wp2_with fail
      refine (hI2.out _).mono ?_
      rintro e w1 ⟨rfl, rfl⟩
      go_wp2_with fail
      go_ret
      exact ⟨by first | rfl | (rw [hx]; rfl) | rw [hx], Below.refl _ _⟩
  case neg =>
  have hres : normB n p ls = (List.range ls.length).all (facOk n ls) := by
    have h2 : (decide (2 ≤ n) || p == 0) = true := by
      by_cases h3 : 2 ≤ n
      · simp [h3]
      · have : p = 0 := by
          by_cases h4 : p = 0
          · exact h4
          · exact absurd ⟨by omega, Or.inl h4⟩ e4
        simp [this]
    simp only [normB, e1, e2, h2, decide_eq_true e3, Bool.true_and]
  have go : ∀ {Q : Prop}, (2 ≤ n → Q) → (n < 2 → p = 0 → ls.length = 0 → Q) → Q := by
    intro Q h1 h2
    by_cases h3 : 2 ≤ n
    · exact h1 h3
    · exact h2 (by omega) (by by_cases h4 : p = 0; exact h4; exact absurd ⟨by omega, Or.inl h4⟩ e4) (by
        by_cases h4 : 0 < ls.length
        · exact absurd ⟨by omega, Or.inr h4⟩ e4
        · omega)
  clear e4
  refine go (fun e4 => ?_) (fun e4 e5 e6 => ?_)
  case refine_2 =>
    have hx : normB n p ls = true := by rw [hres, e6]; rfl
    have e8 : (p != 0) = false := by simp [e5]
    have e7 : ((ls.length : Nat) : Int) = 0 := by omega
    rw [e7] at hlen
    clear e5 hres go
    go_enter Try.func54, Try.ntmps54
    go_wp2_with fail
    refine (hI1.out _).mono ?_
    rintro e w1 ⟨rfl, rfl⟩
    go_wp2_with fail
    refine (hI2.out _).mono ?_
    rintro e w1 ⟨rfl, rfl⟩
    go_wp2_with fail
    go_loopw [3] (fun i wr => i = .int .i64 0 ∧ wr = w) (fun _ _ => 0)
    case atStart => exact ⟨rfl, rfl⟩
    case round =>
      obtain ⟨rfl, rfl⟩ := hrel
      go_wp2_with fail
      go_ret
      exact ⟨by first | rfl | (rw [hx]; rfl) | rw [hx], Below.refl _ _⟩
  case refine_1 =>
  clear go
  go_enter Try.func54, Try.ntmps54
  go_wp2_with fail
  refine (hI1.out _).mono ?_
  rintro e w1 ⟨rfl, rfl⟩
  go_wp2_with fail
  refine (hI2.out _).mono ?_
  rintro e w1 ⟨rfl, rfl⟩
  go_wp2_with fail
  clear A0 A1 A2
  go_loopw [3, 4] (fun i _ wr => ∃ j : Nat, j ≤ ls.length ∧ i = .int .i64 j ∧ (∀ t, t < j → facOk n ls t = true) ∧ Below w.heap.size w wr) (fun i _ _ => ls.length - (intOf i).toNat)
  case atStart => exact ⟨0, by omega, rfl, by omega, Below.refl _ _⟩
  case round =>
    obtain ⟨j, hj, rfl, hall, hb⟩ := hrel
    have hall := hid hall
    have A0 := (hB.below hb).cell 0 rfl
    have A2 := (hB.below hb).cell 2 rfl
    by_cases hlt : j < ls.length
    case neg =>
      obtain rfl : j = ls.length := by omega
      have hx : normB n p ls = true := by rw [hres]; exact all_yes hall.out
      go_wp2_with fail
      go_ret
      exact ⟨by first | rfl | (rw [hx]; rfl) | rw [hx], hb⟩
    case pos =>
    have hi := hv.idx 22 sliceII sizeSI .i64 j (by omega) (by omega)
    simp only [Int.toNat_natCast] at hi
    have hc := (hv.below hb).cell j _ (vat_of (by omega))
    have hrow := (hvr.below hb).row j hlt
    have hsr := hrow.small
    have hlr := hrow.len (P := Try.prog) 32 3 ⟨_, sliceI⟩
    simp only [length_ints] at hsr hlr
    clear ev
    by_cases f1 : ((rat ls j).length : Int) = n
    case neg =>
      have hx := normB_fac (p := p) hlt (by simp [facOk, f1] : facOk n ls j = false)
      have f1' : (((rat ls j).length : Int) != n) = true := by simpa using f1
      clear f1
      go_wp2_with fail
      go_ret
      exact ⟨by first | rfl | (rw [hx]; rfl) | rw [hx], hb⟩
    case pos =>
    have f1' : (((rat ls j).length : Int) != n) = false := by simpa using f1
    cases f2 : okP (rat ls j) with
    | false =>
      have hx := normB_fac (p := p) hlt (by simp [facOk, f2] : facOk n ls j = false)
      clear f1
      go_wp2_with fail
      refine (perm_spec _ _ _ hrow).mono ?_
      rintro e w1 ⟨rfl, hs1⟩
      rw [f2]
      go_wp2_with fail
      go_ret
      exact ⟨by first | rfl | (rw [hx]; rfl) | rw [hx], hb.trans (hs1.mono hb.size)⟩
    | true =>
    have hR := hid (okP_of f2).2.range
    by_cases f3 : rat ls j = idn n.toNat
    case pos =>
      have hx := normB_fac (p := p) hlt (by simp [facOk, f3] : facOk n ls j = false)
      have f3 := hid f3
      clear f1
      go_wp2_with fail
      refine (perm_spec _ _ _ hrow).mono ?_
      rintro e w1 ⟨rfl, hs1⟩
      rw [f2]
      have A0 := (hB.below (hb.trans (hs1.mono hb.size))).cell 0 rfl
      go_wp2_with fail
      refine (id4_spec n _ n0 (by omega)).mono ?_
      rintro e w2 ⟨u, rfl, hu, hs2⟩
      go_wp2_with fail
      refine (is_spec _ _ _ _ _ ((hrow.below hs1).below hs2) hu.reads).mono ?_
      rintro e w3 ⟨rfl, hs3⟩
      rw [decide_eq_true f3.out]
      go_wp2_with fail
      go_ret
      have b1 := hb.trans (hs1.mono hb.size)
      have b2 := b1.trans (hs2.mono b1.size)
      exact ⟨by first | rfl | (rw [hx]; rfl) | rw [hx], b2.trans (hs3.mono b2.size)⟩
    case neg =>
    by_cases f4 : rat ls j = halfF n.toNat
    case pos =>
      have hx := normB_fac (p := p) hlt (by simp [facOk, f4] : facOk n ls j = false)
      have f4 := hid f4
      have f3 := hid f3
      clear f1
      go_wp2_with fail
      refine (perm_spec _ _ _ hrow).mono ?_
      rintro e w1 ⟨rfl, hs1⟩
      rw [f2]
      have b1 := hb.trans (hs1.mono hb.size)
      have A0 := (hB.below b1).cell 0 rfl
      go_wp2_with fail
      refine (id4_spec n _ n0 (by omega)).mono ?_
      rintro e w2 ⟨u, rfl, hu, hs2⟩
      go_wp2_with fail
      refine (is_spec _ _ _ _ _ ((hrow.below hs1).below hs2) hu.reads).mono ?_
      rintro e w3 ⟨rfl, hs3⟩
      rw [decide_eq_false f3.out]
      have b2 := b1.trans (hs2.mono b1.size)
      have b3 := b2.trans (hs3.mono b2.size)
      clear A0
      have A0 := (hB.below b3).cell 0 rfl
      go_wp2_with fail
      refine (half_spec n _ n0 (by omega)).mono ?_
      rintro e w4 ⟨u', rfl, hu', hs4⟩
      go_wp2_with fail
      refine (is_spec _ _ _ _ _ ((((hrow.below hs1).below hs2).below hs3).below hs4) hu'.reads).mono ?_
      rintro e w5 ⟨rfl, hs5⟩
      rw [decide_eq_true f4.out]
      go_wp2_with fail
      go_ret
      have b4 := b3.trans (hs4.mono b3.size)
      exact ⟨by first | rfl | (rw [hx]; rfl) | rw [hx], b4.trans (hs5.mono b4.size)⟩
    case neg =>
    have f5 := hid (show facOk n ls j = (j == 0 || extraF (rat ls (j - 1)) (rat ls j) == 0) by simp [facOk, f1, f2, f3, f4])
    have f4 := hid f4
    have f3 := hid f3
    have f1 := hid f1
    go_wp2_with fail
    refine (perm_spec _ _ _ hrow).mono ?_
    rintro e w1 ⟨rfl, hs1⟩
    rw [f2]
    have b1 := hb.trans (hs1.mono hb.size)
    clear A0 A2
    have A0 := (hB.below b1).cell 0 rfl
    go_wp2_with fail
    refine (id4_spec n _ n0 (by omega)).mono ?_
    rintro e w2 ⟨u, rfl, hu, hs2⟩
    go_wp2_with fail
    refine (is_spec _ _ _ _ _ ((hrow.below hs1).below hs2) hu.reads).mono ?_
    rintro e w3 ⟨rfl, hs3⟩
    rw [decide_eq_false f3.out]
    have b2 := b1.trans (hs2.mono b1.size)
    have b3 := b2.trans (hs3.mono b2.size)
    clear A0
    have A0 := (hB.below b3).cell 0 rfl
    go_wp2_with fail
    refine (half_spec n _ n0 (by omega)).mono ?_
    rintro e w4 ⟨u', rfl, hu', hs4⟩
    go_wp2_with fail
    refine (is_spec _ _ _ _ _ ((((hrow.below hs1).below hs2).below hs3).below hs4) hu'.reads).mono ?_
    rintro e w5 ⟨rfl, hs5⟩
    rw [decide_eq_false f4.out]
    have b4 := b3.trans (hs4.mono b3.size)
    have b5 := b4.trans (hs5.mono b4.size)
    clear A0
    by_cases j0 : j = 0
    · subst j0
      go_wp2_with fail
      go_roundw
      case rel => exact ⟨0 + 1, by omega, by go_num, forall_snoc (p := fun t => facOk n ls t = true) hall.out (by rw [f5.out]; rfl), b5⟩
      case measure => simp [intOf]; omega
    · have hprev := facOk_of (hall.out (j - 1) (by omega))
      have hRp := (okP_of hprev.2.1).2.range
      have ev := hvr.len
      have hi2 := hv.idx 22 sliceII sizeSI .i64 (j - 1) (by omega) (by omega)
      have hk : (((j : Int) - 1).toNat) = j - 1 := by omega
      rw [hk] at hi2
      have A2 := (hB.below b5).cell 2 rfl
      have hc2 := (hv.below b5).cell (j - 1) _ (vat_of (by omega))
      have hl1 := hprev.1
      clear hprev ev
      go_wp2_with fail
      refine (extra_spec _ _ _ _ _ ((hvr.below b5).row (j - 1) (by omega)) ((hvr.below b5).row j hlt) (by omega) (by have := f1.out; omega) hRp).mono ?_
      rintro e w6 ⟨rfl, hs6⟩
      have b6 := b5.trans (hs6.mono b5.size)
      by_cases f6 : extraF (rat ls (j - 1)) (rat ls j) = 0
      · rw [f6]
        go_wp2_with fail
        go_roundw
        case rel => exact ⟨j + 1, by omega, by go_num, forall_snoc (p := fun t => facOk n ls t = true) hall.out (by rw [f5.out, f6]; simp), b6⟩
        case measure => simp [intOf]; omega
      · have f6' : (extraF (rat ls (j - 1)) (rat ls j) != 0) = true := by simpa using f6
        have hx := normB_fac (p := p) hlt (by rw [f5.out]; simp [j0, f6] : facOk n ls j = false)
        clear f6
        go_wp2_with fail
        go_ret
        exact ⟨by first | rfl | (rw [hx]; rfl) | rw [hx], b6⟩

set_option maxRecDepth 100000 in
set_option maxHeartbeats 1000000 in
theorem vn_spec (n p : Int) (v : Value) (ls : List (List Int)) (w : World) (h : ReadsII w v ls) :
    Calls Try.prog 14 #[.agg #[.int .i64 n, .int .i64 p, v]] w fun e w' => e = .returned (.bool (normB n p ls)) ∧ Below w.heap.size w w' := by
  obtain ⟨vs, hv, hvr⟩ := h.alloc (.cells #[.int .i64 n, .int .i64 p, v] 27)
  have hB := Bx.new w #[.int .i64 n, .int .i64 p, v] 27
  have hbox : Below w.heap.size w (w.alloc (.cells #[.int .i64 n, .int .i64 p, v] 27)) := (Below.refl _ _).alloc (Nat.le_refl _) _
  go_enter Try.func14, Try.ntmps14
  go_wp2_with fail
  refine (l04ok_spec _ n p v vs ls _ hB hv hvr).mono ?_
  rintro e w1 ⟨rfl, hs⟩
  go_wp2_with fail
  go_ret
  exact ⟨rfl, hbox.trans (hs.mono hbox.size)⟩


set_option maxRecDepth 100000 in
set_option maxHeartbeats 4000000 in
theorem vn_impl (n p : Int) (v : Value) (ls : List (List Int)) (w0 : World) (h : ReadsII w0 v ls) :
    Calls Try.prog 16 #[.agg #[.int .i64 n, .int .i64 p, v]] w0 fun e w' => e = .returned (.bool (normB n p ls)) ∧ Below w0.heap.size w0 w' := by
  obtain ⟨vs, hv, hvr⟩ := h.alloc (.cells #[.int .i64 n, .int .i64 p, v] 27)
  have hB := Bx.new w0 #[.int .i64 n, .int .i64 p, v] 27
  have hbox : Below w0.heap.size w0 (w0.alloc (.cells #[.int .i64 n, .int .i64 p, v] 27)) := (Below.refl _ _).alloc (Nat.le_refl _) _
  have hs := hv.small
  have hlen := hv.len (P := Try.prog) 22 3 ⟨_, sliceII⟩
  have ev := hvr.len
  rw [ev] at hs hlen
  have A0 := hB.cell 0 rfl
  have A1 := hB.cell 1 rfl
  have A2 := hB.cell 2 rfl
  cases e1 : inB n 0 12 with
  | false =>
    have hI1 := hid (fun w => by have := strands_impl n w; rw [e1] at this; exact this)
    go_enter Try.func16, Try.ntmps16
    go_wp2_with fail
    refine (hI1.out _).mono ?_
    rintro e w1 ⟨rfl, rfl⟩
    go_wp2_with fail
    go_ret
    exact ⟨by simp [normB, e1], hbox⟩
  | true =>
  obtain ⟨n0, n12⟩ := inB_yes' e1
  have hI1 := hid (fun w => by have := strands_impl n w; rw [e1] at this; exact this)
  cases e2 : inB p (-100) 100 with
  | false =>
    have hI2 := hid (fun w => by have := in_impl p (-100) 100 w; rw [e2] at this; exact this)
    go_enter Try.func16, Try.ntmps16
    go_wp2_with fail
    refine (hI1.out _).mono ?_
    rintro e w1 ⟨rfl, rfl⟩
    go_wp2_with fail
    refine (hI2.out _).mono ?_
    rintro e w1 ⟨rfl, rfl⟩
    go_wp2_with fail
    go_ret
    exact ⟨by simp [normB, e2], hbox⟩
  | true =>
  have hI2 := hid (fun w => by have := in_impl p (-100) 100 w; rw [e2] at this; exact this)
  by_cases e3 : ls.length ≤ 100
  case neg =>
    have hx : normB n p ls = false := by simp [normB, e3]
    go_enter Try.func16, Try.ntmps16
    go_wp2_with fail
    refine (hI1.out _).mono ?_
    rintro e w1 ⟨rfl, rfl⟩
    go_wp2_with fail
    refine (hI2.out _).mono ?_
    rintro e w1 ⟨rfl, rfl⟩
    go_wp2_with fail
    go_ret
    exact ⟨by first | rfl | (rw [hx]; rfl) | rw [hx], hbox⟩
  case pos =>
  have hres : (∀ t, t < ls.length → facOk n ls t = true) → normB n p ls = (decide (2 ≤ n) || p == 0) := by
    intro hall
    simp only [normB, e1, e2, all_yes hall, decide_eq_true e3, Bool.true_and, Bool.and_true]
  go_enter Try.func16, Try.ntmps16
  go_wp2_with fail
  refine (hI1.out _).mono ?_
  rintro e w1 ⟨rfl, rfl⟩
  go_wp2_with fail
  refine (hI2.out _).mono ?_
  rintro e w1 ⟨rfl, rfl⟩
  go_wp2_with fail
  have hsz : w0.heap.size ≤ (w0.alloc (.cells #[.int .i64 n, .int .i64 p, v] 27)).heap.size := by simp
  generalize hW : (w0.alloc (.cells #[.int .i64 n, .int .i64 p, v] 27)) = w at *
  clear A0 A1 A2 hW
  go_loopw [3, 4, 24] (fun _ _ i wr => ∃ j : Nat, j ≤ ls.length ∧ i = .int .i64 j ∧ (∀ t, t < j → facOk n ls t = true) ∧ Below w.heap.size w wr) (fun _ _ i _ => ls.length - (intOf i).toNat)
  case atStart => exact ⟨0, by omega, rfl, by omega, Below.refl _ _⟩
  case round =>
    obtain ⟨j, hj, rfl, hall, hb⟩ := hrel
    have hall := hid hall
    have A0 := (hB.below hb).cell 0 rfl
    have A1 := (hB.below hb).cell 1 rfl
    have A2 := (hB.below hb).cell 2 rfl
    by_cases hlt : j < ls.length
    case neg =>
      obtain rfl : j = ls.length := by omega
      by_cases h2 : 2 ≤ n
      · have hx : normB n p ls = true := by rw [hres hall.out]; simp [h2]
        go_wp2_with fail
        go_ret
        exact ⟨by first | rfl | (rw [hx]; rfl) | rw [hx], hbox.trans (hb.mono hsz)⟩
      · cases h3 : (p == 0) with
        | true =>
          have hx : normB n p ls = true := by rw [hres hall.out, h3]; simp
          go_wp2_with fail
          go_ret
          exact ⟨by first | rfl | (rw [hx]; rfl) | rw [hx], hbox.trans (hb.mono hsz)⟩
        | false =>
          have hx : normB n p ls = false := by rw [hres hall.out, h3]; simp; omega
          go_wp2_with fail
          go_ret
          exact ⟨by first | rfl | (rw [hx]; rfl) | rw [hx], hbox.trans (hb.mono hsz)⟩
    case pos =>
    have hi := hv.idx 22 sliceII sizeSI .i64 j (by omega) (by omega)
    simp only [Int.toNat_natCast] at hi
    have hc := (hv.below hb).cell j _ (vat_of (by omega))
    have hrow := (hvr.below hb).row j hlt
    have hsr := hrow.small
    have hlr := hrow.len (P := Try.prog) 32 3 ⟨_, sliceI⟩
    simp only [length_ints] at hsr hlr
    clear ev hres A0 A1 A2
    cases f2 : okP (rat ls j) with
    | false =>
      have hx := normB_fac (p := p) hlt (by simp [facOk, f2] : facOk n ls j = false)
      go_wp2_with fail
      refine (ok_impl _ _ _ hrow).mono ?_
      rintro e w1 ⟨rfl, hs1⟩
      rw [f2]
      go_wp2_with fail
      go_ret
      exact ⟨by first | rfl | (rw [hx]; rfl) | rw [hx], hbox.trans ((hb.trans (hs1.mono hb.size)).mono hsz)⟩
    | true =>
    have hR := hid (okP_of f2).2.range
    go_wp2_with fail
    refine (ok_impl _ _ _ hrow).mono ?_
    rintro e w1 ⟨rfl, hs1⟩
    rw [f2]
    have b1 := hb.trans (hs1.mono hb.size)
    have A0 := (hB.below b1).cell 0 rfl
    by_cases f1 : ((rat ls j).length : Int) = n
    case neg =>
      have hx := normB_fac (p := p) hlt (by simp [facOk, f1] : facOk n ls j = false)
      have f1' : (((rat ls j).length : Int) != n) = true := by simpa using f1
      clear f1
      go_wp2_with fail
      go_ret
      exact ⟨by first | rfl | (rw [hx]; rfl) | rw [hx], hbox.trans (b1.mono hsz)⟩
    case pos =>
    have f1' : (((rat ls j).length : Int) != n) = false := by simpa using f1
    by_cases f3 : rat ls j = idn n.toNat
    case pos =>
      have hx := normB_fac (p := p) hlt (by simp [facOk, f3] : facOk n ls j = false)
      have f3 := hid f3
      have f1 := hid f1
      go_wp2_with fail
      refine (idn_impl n _ n0 (by omega)).mono ?_
      rintro e w2 ⟨u, rfl, hu, hs2⟩
      go_wp2_with fail
      refine (equal_impl _ _ _ _ _ ((hrow.below hs1).below hs2) hu.reads).mono ?_
      rintro e w3 ⟨rfl, hs3⟩
      rw [decide_eq_true f3.out]
      go_wp2_with fail
      go_ret
      have b2 := b1.trans (hs2.mono b1.size)
      exact ⟨by first | rfl | (rw [hx]; rfl) | rw [hx], hbox.trans ((b2.trans (hs3.mono b2.size)).mono hsz)⟩
    case neg =>
    by_cases f4 : rat ls j = halfF n.toNat
    case pos =>
      have hx := normB_fac (p := p) hlt (by simp [facOk, f4] : facOk n ls j = false)
      have f4 := hid f4
      have f3 := hid f3
      have f1 := hid f1
      go_wp2_with fail
      refine (idn_impl n _ n0 (by omega)).mono ?_
      rintro e w2 ⟨u, rfl, hu, hs2⟩
      go_wp2_with fail
      refine (equal_impl _ _ _ _ _ ((hrow.below hs1).below hs2) hu.reads).mono ?_
      rintro e w3 ⟨rfl, hs3⟩
      rw [decide_eq_false f3.out]
      have b2 := b1.trans (hs2.mono b1.size)
      have b3 := b2.trans (hs3.mono b2.size)
      clear A0
      have A0 := (hB.below b3).cell 0 rfl
      go_wp2_with fail
      refine (half_impl n _ n0 (by omega)).mono ?_
      rintro e w4 ⟨u', rfl, hu', hs4⟩
      go_wp2_with fail
      refine (equal_impl _ _ _ _ _ ((((hrow.below hs1).below hs2).below hs3).below hs4) hu'.reads).mono ?_
      rintro e w5 ⟨rfl, hs5⟩
      rw [decide_eq_true f4.out]
      go_wp2_with fail
      go_ret
      have b4 := b3.trans (hs4.mono b3.size)
      exact ⟨by first | rfl | (rw [hx]; rfl) | rw [hx], hbox.trans ((b4.trans (hs5.mono b4.size)).mono hsz)⟩
    case neg =>
    have f5 := hid (show facOk n ls j = (j == 0 || extraF (rat ls (j - 1)) (rat ls j) == 0) by simp [facOk, f1, f2, f3, f4])
    have f4 := hid f4
    have f3 := hid f3
    have f1 := hid f1
    go_wp2_with fail
    refine (idn_impl n _ n0 (by omega)).mono ?_
    rintro e w2 ⟨u, rfl, hu, hs2⟩
    go_wp2_with fail
    refine (equal_impl _ _ _ _ _ ((hrow.below hs1).below hs2) hu.reads).mono ?_
    rintro e w3 ⟨rfl, hs3⟩
    rw [decide_eq_false f3.out]
    have b2 := b1.trans (hs2.mono b1.size)
    have b3 := b2.trans (hs3.mono b2.size)
    clear A0
    have A0 := (hB.below b3).cell 0 rfl
    go_wp2_with fail
    refine (half_impl n _ n0 (by omega)).mono ?_
    rintro e w4 ⟨u', rfl, hu', hs4⟩
    go_wp2_with fail
    refine (equal_impl _ _ _ _ _ ((((hrow.below hs1).below hs2).below hs3).below hs4) hu'.reads).mono ?_
    rintro e w5 ⟨rfl, hs5⟩
    rw [decide_eq_false f4.out]
    have b4 := b3.trans (hs4.mono b3.size)
    have b5 := b4.trans (hs5.mono b4.size)
    clear A0
    by_cases j0 : j = 0
    · subst j0
      go_wp2_with fail
      go_roundw
      case rel => exact ⟨0 + 1, by omega, by go_num, forall_snoc (p := fun t => facOk n ls t = true) hall.out (by rw [f5.out]; rfl), b5⟩
      case measure => simp [intOf]; omega
    · have hprev := facOk_of (hall.out (j - 1) (by omega))
      have hRp := (okP_of hprev.2.1).2.range
      have ev := hvr.len
      have hi2 := hv.idx 22 sliceII sizeSI .i64 (j - 1) (by omega) (by omega)
      have hk : (((j : Int) - 1).toNat) = j - 1 := by omega
      rw [hk] at hi2
      have A2 := (hB.below b5).cell 2 rfl
      have hc2 := (hv.below b5).cell (j - 1) _ (vat_of (by omega))
      have hl1 := hprev.1
      clear hprev ev
      go_wp2_with fail
      refine (missing_impl _ _ _ _ _ ((hvr.below b5).row (j - 1) (by omega)) ((hvr.below b5).row j hlt) (by omega) (by have := f1.out; omega) hRp).mono ?_
      rintro e w6 ⟨rfl, hs6⟩
      have b6 := b5.trans (hs6.mono b5.size)
      by_cases f6 : extraF (rat ls (j - 1)) (rat ls j) = 0
      · rw [f6]
        go_wp2_with fail
        go_roundw
        case rel => exact ⟨j + 1, by omega, by go_num, forall_snoc (p := fun t => facOk n ls t = true) hall.out (by rw [f5.out, f6]; simp), b6⟩
        case measure => simp [intOf]; omega
      · have f6' : (extraF (rat ls (j - 1)) (rat ls j) != 0) = true := by simpa using f6
        have hx := normB_fac (p := p) hlt (by rw [f5.out]; simp [j0, f6] : facOk n ls j = false)
        clear f6
        go_wp2_with fail
        go_ret
        exact ⟨by first | rfl | (rw [hx]; rfl) | rw [hx], hbox.trans (b6.mono hsz)⟩


end Go.Proofs.Ytmeccemnmkobbaa

namespace Go.Proofs.Ytmeccemnmkobbaa
open Go.RowKit
open Pm

/-- the state of a list under way: the call's own slice f with rows -/
structure SetC {n : Nat} (w wr : World) (f : Value) (lo : Nat) (L : List (Pm n)) (vs : List Value) : Prop where
  own : Own wr w.heap.size 32 f vs
  rows : RowsB wr lo vs (vals L)
  ap : ∀ i, i < L.length → Apart (vat vs i) f
  below : Below w.heap.size w wr
theorem SetC.len {n : Nat} {w wr : World} {f : Value} {lo : Nat} {L : List (Pm n)} {vs : List Value} (h : SetC w wr f lo L vs) : vs.length = L.length := by
  have := h.rows.rows.len; simpa using this
theorem SetC.next {n : Nat} {w wr w' : World} {f : Value} {lo : Nat} {L : List (Pm n)} {vs : List Value} (h : SetC w wr f lo L vs) (hb : Below wr.heap.size wr w') : SetC w w' f lo L vs :=
  ⟨h.own.below hb, h.rows.below hb, h.ap, h.below.trans (hb.mono h.below.size)⟩
theorem SetC.row {n : Nat} {w wr : World} {f : Value} {lo : Nat} {L : List (Pm n)} {vs : List Value} (h : SetC w wr f lo L vs) {i : Nat} (hi : i < L.length) : Reads wr (vat vs i) (ints (pat L i).1) := by
  have := h.rows.rows.row i (by simpa using hi)
  rwa [rat_vals hi] at this
theorem SetC.set {n : Nat} {w wr w' : World} {f : Value} {lo : Nat} {L : List (Pm n)} {vs : List Value} (h : SetC w wr f lo L vs) (hb : Below wr.heap.size wr w') (hlo : lo ≤ w.heap.size) {i : Nat} (hi : i < L.length) {u : Value} {p : Pm n}
    (hu : Own w' wr.heap.size 2 u (ints p.1)) : SetC w (w'.setCell (adr f i) u) f lo (L.set i p) (vs.set i u) := by
  have hsz := h.below.size
  obtain ⟨a, b, c⟩ := h.rows.set h.own (fun j hj => h.ap j (by simpa using hj)) hb (i := i) (by simpa using hi) (ei := 2) hu (by omega)
  refine ⟨a, ?_, ?_, (h.below.trans (hb.mono hsz)).setCell ((h.own.adr_blk (i := i) (by rw [h.len]; exact hi)).2.1) u⟩
  · rw [vals_set]; exact b
  · intro j hj; exact c j (by simpa using hj)
theorem mid_of_one {n : Nat} {p : Pm n} (h : p = one n) : (gar n).mid p = false := by
  have e : p = (gar n).one := h
  simp [Gar.mid, e]
theorem mid_of_top {n : Nat} {p : Pm n} (h : p = top n) : (gar n).mid p = false := by
  have e : p = (gar n).top := h
  simp [Gar.mid, e]
theorem mid_of_no {n : Nat} {p : Pm n} (h : ¬ p = one n) (h2 : ¬ p = top n) : (gar n).mid p = true := by
  have e : ¬ p = (gar n).one := h
  have e2 : ¬ p = (gar n).top := h2
  simp [Gar.mid, e, e2]
theorem RowsB.snoc {w : World} {lo : Nat} {vs : List Value} {ls : List (List Int)} {v : Value} {l : List Int} (h : RowsB w lo vs ls) (hv : Reads w v (ints l)) (hb : ∀ k, blk v = some k → lo ≤ k ∧ k < w.heap.size) : RowsB w lo (vs ++ [v]) (ls ++ [l]) := by
  have hl := h.rows.len
  refine ⟨⟨by simp [hl], fun i hi => ?_⟩, fun i hi k hk => ?_⟩
  · rw [List.length_append, List.length_singleton] at hi
    by_cases e : i < ls.length
    · rw [vat_snoc (by omega), rat_snoc e]; exact h.rows.row i e
    · obtain rfl : i = ls.length := by omega
      rw [rat_last, ← hl, vat_last]; exact hv
  · rw [List.length_append, List.length_singleton] at hi
    by_cases e : i < ls.length
    · rw [vat_snoc (by omega)] at hk; exact h.blks i e k hk
    · obtain rfl : i = ls.length := by omega
      rw [← hl, vat_last] at hk; exact hb k hk
def exl {n : Nat} (L : List (Pm n)) (j : Nat) : Int := extraF (pat L j).1 (pat L (j + 1)).1
theorem Pm.small {n : Nat} (p : Pm n) : ∀ i, i < p.1.length → 0 ≤ nth p.1 i ∧ nth p.1 i < p.1.length := p.2.2.range

theorem SetC.extra {n : Nat} {w wr : World} {f : Value} {lo : Nat} {L : List (Pm n)} {vs : List Value} (h : SetC w wr f lo L vs) (hn : n ≤ 12) {j : Nat} (hj : j + 1 < L.length) :
    Calls Try.prog 110 #[vat vs j, vat vs (j + 1)] wr.drew fun e w' => e = .returned (.int .i64 (exl L j)) ∧ Below wr.drew.heap.size wr.drew w' :=
  extra_spec _ _ _ _ _ ((h.row (by omega)).drewN 1) ((h.row hj).drewN 1) (by rw [Pm.len]; omega) (by rw [Pm.len]; omega) (Pm.small _)


set_option maxRecDepth 100000 in
set_option maxHeartbeats 8000000 in
theorem settle_spec {n : Nat} (v : Value) (vs : List Value) (L : List (Pm n)) (w : World) (lo : Nat) (hlo : lo ≤ w.heap.size) (h : Reads w v vs) (hr : RowsB w lo vs (vals L)) (hl : L.length ≤ 1048576) (hn : n ≤ 12) :
    Calls Try.prog 105 #[.int .i64 (n : Int), v] w fun e w' => ∃ u us, e = .returned (.tuple #[.int .i64 ((gar n).NF (0, L)).1, u]) ∧ Own w' w.heap.size 32 u us ∧ RowsB w' lo us (vals ((gar n).NF (0, L)).2) ∧ Below w.heap.size w w' ∧ 0 ≤ ((gar n).NF (0, L)).1 ∧ ((gar n).NF (0, L)).1 ≤ L.length := by
  have hvl : vs.length = L.length := by have := hr.rows.len; simpa using this
  have hone : ∀ y ∈ vs, y.oneCell' = true := by
    intro y hy
    obtain ⟨i, hi, rfl⟩ := List.mem_iff_getElem.1 hy
    have := hr.rows.row i (by have := hr.rows.len; omega)
    obtain ⟨a, c, e, -⟩ := this.form
    have e2 : vs[i] = vat vs i := by simp [vat, hi]
    rw [e2, e]; rfl
  obtain ⟨f, w1, hrun, hf, hg⟩ := app_run (ty := 22) sliceII infoSI rfl (own_empty w 32 (B := w.heap.size) (Nat.le_refl _)) (h.below ((Below.refl _ _).alloc (Nat.le_refl _) (.cells #[] 32))) hone (by simp) (by simp; omega) (by decide)
  simp only [List.nil_append] at hf
  have hb0 : Below w.heap.size w w1 := ((Below.refl _ _).alloc (Nat.le_refl _) _).grown hg (by simp) (fun k hk => by simp [blk] at hk; omega)
  have hC : SetC w w1 f lo L vs := ⟨hf, hr.below hb0, fun i hi k hk e => by
    have h1 := hr.blks i (by simpa using hi) k hk
    have h2 := (hf.blk_lt e.symm).1
    omega, hb0⟩
  obtain ⟨fa, fc, rfl⟩ := hf.form3'
  have hfl : (vs.length : Nat) = L.length := hvl
  clear hf hone hg hb0 hr h
  go_enter Try.func105, Try.ntmps105
  go_wp2_with (at_builtin; refine wpList_app hrun rfl _ _ rfl rfl rfl ?_)
  clear hrun
  rw [hfl] at hC
  generalize hfe : Value.slice fa L.length fc = f at *
  have hF := hid (⟨fa, L.length, fc, hfe.symm⟩ : ∃ a m c, f = .slice a m c)
  clear hvl hfl
  have hlen : ∀ (wr : World) (L' : List (Pm n)) (us : List Value), SetC w wr f lo L' us → L'.length = L.length → ∀ w', Sem.run Try.prog (Builtin.len_ #[22] 3 #[f]) w' = .ok (.int .i64 (L.length : Int)) w' := by
    intro wr L' us hc hl' w'
    have := hc.own.reads.len (P := Try.prog) 22 3 ⟨_, sliceII⟩ w'
    rw [hc.len, hl'] at this; exact this
  replace hlen := hid hlen
  clear hfe
  go_loopg [7, 8, 9] (far 0 L + 1).toNat (fun g b _ _ wr => ∃ L' us, SetC w wr f lo L' us ∧ L'.length = L.length ∧ (gar n).Eqv L L' ∧ ((b = .bool true ∧ (far 0 L' + 1).toNat ≤ g) ∨ (b = .bool false ∧ ∀ t, t + 1 < L.length → exl L' t = 0)))
  case atStart => exact ⟨L, vs, hC, rfl, (gar n).eqv_refl _, .inl ⟨rfl, Nat.le_refl _⟩⟩
  case round =>
    clear hC
    obtain ⟨L', us, hC, hLl, hE, hbb⟩ := hrel
    rcases hbb with ⟨rfl, hg⟩ | ⟨rfl, hfin⟩
    case inr =>
      have hln := hlen.out _ _ _ hC hLl
      replace hfin := hid hfin
      replace hE := hid hE
      rename World => wF
      have hC0 := hid hC
      have hnf := hid (NF_of hE.out fun i hi => hfin.out i (by omega))
      clear hfin hE
      go_wp2_with fail
      go_loopw [10, 11, 12] (fun pw o i wr => ∃ (j : Nat) (us2 : List Value), j ≤ L.length ∧ i = .int .i64 j ∧ pw = .int .i64 ((gar n).tops (L'.take j)) ∧ Own wr wF.heap.size 32 o us2 ∧ RowsB wF lo us2 (vals ((L'.take j).filter (gar n).mid)) ∧ Below wF.heap.size wF wr) (fun _ _ i _ => L.length - (intOf i).toNat)
      case atStart => exact ⟨0, [], by omega, rfl, rfl, own_empty wF _ (Nat.le_refl _), ⟨⟨rfl, fun i hi => absurd hi (by simp [vals])⟩, fun i hi => absurd hi (by simp [vals])⟩, (Below.refl _ _).alloc (Nat.le_refl _) _⟩
      case round =>
        clear hC
        obtain ⟨j, us2, hj, rfl, rfl, ho, hrr, hb⟩ := hrel
        by_cases hlt : j < L.length
        case neg =>
          obtain rfl : j = L.length := by omega
          rw [List.take_of_length_le (by omega)] at hrr ⊢
          have e1 : ((gar n).NF (0, L)).1 = (gar n).tops L' := by rw [hnf.out]
          have e2 : ((gar n).NF (0, L)).2 = L'.filter (gar n).mid := by rw [hnf.out]
          go_wp2_with fail
          refine bodyPost_ret (v := .tuple #[.int .i64 ((gar n).tops L'), u11]) (by simp [results, Try.results105, go_sem]) rfl ⟨_, _, by rw [e1], ho.mono hC0.out.below.size, by rw [e2]; exact hrr.below hb, hC0.out.below.trans (hb.mono hC0.out.below.size), by rw [e1]; have := tops_le L'; omega⟩
        case pos =>
        have hi := hC0.out.own.reads.idx 22 sliceII sizeSI .i64 j (by omega) (by rw [hC0.out.len]; omega)
        simp only [Int.toNat_natCast] at hi
        have hK := hid (fun (w' : World) (hw : Below wr.heap.size wr w') => (hC0.out.own.reads.below (hb.trans (hw.mono hb.size))).cell j _ (vat_of (by rw [hC0.out.len]; omega)))
        have hR := hid (fun (w' : World) (hw : Below wr.heap.size wr w') => (hC0.out.next (hb.trans (hw.mono hb.size))).row (i := j) (by omega))
        have hbk := hid (hC0.out.rows.blks j (by simp; omega))
        have htp := tops_le (L'.take j)
        have htn := hid (tops_take (L := L') (k := j) (by omega))
        have hfn := hid (filter_take (L := L') (k := j) (by omega) (gar n).mid)
        rw [List.length_take, show min j L'.length = j by omega] at htp
        have hI := hid (fun (w' : World) => id4_spec (n : Int) w' (by omega) (by omega))
        have hH := hid (fun (w' : World) => half_spec (n : Int) w' (by omega) (by omega))
        simp only [Int.toNat_natCast] at hI hH
        have hfll : ((L'.take j).filter (gar n).mid).length ≤ L'.length := Nat.le_trans (List.length_filter_le _ _) (by simp; omega)
        have hrF := hid (hC0.out.row (i := j) (by omega))
        generalize pat L' j = p at *
        generalize (gar n).tops (L'.take j) = tp at *
        generalize (L'.take j).filter (gar n).mid = fl at *
        have hdz : wr.drew.heap.size = wr.heap.size := rfl
        replace hb := hid hb
        replace ho := hid ho
        replace hrr := hid hrr
        by_cases h1 : p = one n
        case pos =>
          have hS := hid (fun (w' : World) (hw : Below wr.heap.size wr w') (x : Value) (hx : Reads w' x (ints (idn n))) => by have := is_spec _ _ _ _ _ (hR.out w' hw) hx; rw [decide_eq_true (by rw [h1, idn_val] : p.1 = idn n)] at this; exact this)
          have h2 := hid (mid_of_one h1)
          have h1 := hid h1
          go_wp2_with fail
          go_region_held3 (fun w' => w'.cell? (adr f j) = some (vat us j)) (first | exact hK.out _ (Below.refl _ _).drew | exact hK.out _ hbT | exact hK.out _ hbS) ((first | (go_at_call 109; refine (hI.out _).mono ?_; rintro e w3 ⟨x, rfl, hx, hs3⟩; have hbS : Below wr.heap.size wr w3 := (Below.refl _ wr).drew.trans hs3) | (go_at_call 108; refine (hS.out _ hbS _ hx.reads).mono ?_; rintro e w4 ⟨rfl, hs4⟩; have hbT : Below wr.heap.size wr w4 := hbS.trans (hs4.mono hbS.size))))
          all_goals
            go_wp2_with fail
            go_roundw
            case rel => exact ⟨j + 1, us2, by omega, by go_num, by rw [htn.out, if_neg (fun h => h.1 h1.out)]; simp, ho.out.below hbT, by rw [hfn.out, h2.out]; simpa using hrr.out, hb.out.trans (hbT.mono hb.out.size)⟩
            case measure => simp [intOf]; omega
        case neg =>
        have hS := hid (fun (w' : World) (hw : Below wr.heap.size wr w') (x : Value) (hx : Reads w' x (ints (idn n))) => by have := is_spec _ _ _ _ _ (hR.out w' hw) hx; rw [decide_eq_false (fun e => h1 (Subtype.ext (e.trans (idn_val n))) : ¬ p.1 = idn n)] at this; exact this)
        by_cases h3 : p = top n
        case pos =>
          have hS2 := hid (fun (w' : World) (hw : Below wr.heap.size wr w') (x : Value) (hx : Reads w' x (ints (halfF n))) => by have := is_spec _ _ _ _ _ (hR.out w' hw) hx; rw [decide_eq_true (by rw [h3, half_val] : p.1 = halfF n)] at this; exact this)
          have h2 := hid (mid_of_top h3)
          have h1 := hid h1
          have h3 := hid h3
          go_wp2_with fail
          go_region_held3 (fun w' => w'.cell? (adr f j) = some (vat us j)) (first | exact hK.out _ (Below.refl _ _).drew | exact hK.out _ hbT | exact hK.out _ hbS) ((first | (go_at_call 109; refine (hI.out _).mono ?_; rintro e w3 ⟨x, rfl, hx, hs3⟩; have hbS : Below wr.heap.size wr w3 := (Below.refl _ wr).drew.trans hs3) | (go_at_call 108; refine (hS.out _ hbS _ hx.reads).mono ?_; rintro e w4 ⟨rfl, hs4⟩; have hbT : Below wr.heap.size wr w4 := hbS.trans (hs4.mono hbS.size))))
          all_goals
            have hdz4 : w4.drew.heap.size = w4.heap.size := rfl
            go_wp2_with fail
            go_region_held3 (fun w' => w'.cell? (adr f j) = some (vat us j)) (first | exact hK.out _ hbT.drew | exact hK.out _ hbU | exact hK.out _ hbV) ((first | (go_at_call 83; refine (hH.out _).mono ?_; rintro e w5 ⟨y, rfl, hy, hs5⟩; have hbV : Below wr.heap.size wr w5 := hbT.drew.trans (hs5.mono hbT.size)) | (go_at_call 108; refine (hS2.out _ hbV _ hy.reads).mono ?_; rintro e w6 ⟨rfl, hs6⟩; have hbU : Below wr.heap.size wr w6 := hbV.trans (hs6.mono hbV.size))))
            all_goals
              go_wp2_with fail
              go_roundw
              case rel => exact ⟨j + 1, us2, by omega, by go_num, by rw [htn.out, if_pos ⟨h1.out, h3.out⟩], ho.out.below hbU, by rw [hfn.out, h2.out]; simpa using hrr.out, hb.out.trans (hbU.mono hb.out.size)⟩
              case measure => simp [intOf]; omega
        case neg =>
          have hS2 := hid (fun (w' : World) (hw : Below wr.heap.size wr w') (x : Value) (hx : Reads w' x (ints (halfF n))) => by have := is_spec _ _ _ _ _ (hR.out w' hw) hx; rw [decide_eq_false (fun e => h3 (Subtype.ext (e.trans (half_val n))) : ¬ p.1 = halfF n)] at this; exact this)
          have h2 := hid (mid_of_no h1 h3)
          have h1 := hid h1
          have h3 := hid h3
          go_wp2_with fail
          go_region_held3 (fun w' => w'.cell? (adr f j) = some (vat us j)) (first | exact hK.out _ (Below.refl _ _).drew | exact hK.out _ hbT | exact hK.out _ hbS) ((first | (go_at_call 109; refine (hI.out _).mono ?_; rintro e w3 ⟨x, rfl, hx, hs3⟩; have hbS : Below wr.heap.size wr w3 := (Below.refl _ wr).drew.trans hs3) | (go_at_call 108; refine (hS.out _ hbS _ hx.reads).mono ?_; rintro e w4 ⟨rfl, hs4⟩; have hbT : Below wr.heap.size wr w4 := hbS.trans (hs4.mono hbS.size))))
          all_goals
            have hdz4 : w4.drew.heap.size = w4.heap.size := rfl
            go_wp2_with fail
            go_region_held3 (fun w' => w'.cell? (adr f j) = some (vat us j)) (first | exact hK.out _ hbT.drew | exact hK.out _ hbU | exact hK.out _ hbV) ((first | (go_at_call 83; refine (hH.out _).mono ?_; rintro e w5 ⟨y, rfl, hy, hs5⟩; have hbV : Below wr.heap.size wr w5 := hbT.drew.trans (hs5.mono hbT.size)) | (go_at_call 108; refine (hS2.out _ hbV _ hy.reads).mono ?_; rintro e w6 ⟨rfl, hs6⟩; have hbU : Below wr.heap.size wr w6 := hbV.trans (hs6.mono hbV.size))))
            all_goals
              have hcU := hK.out _ hbU
              have hRU := hR.out _ hbU
              obtain ⟨ua, un, uc, hu⟩ : ∃ a m c, vat us j = Value.slice a m c := by obtain ⟨a, c, e, -⟩ := hRU.form; exact ⟨a, _, c, e⟩
              generalize vat us j = vj at *
              subst hu
              have hvl2 := hrr.out.rows.len
              rw [length_vals] at hvl2
              have hbw := hb.out.trans (hbU.mono hb.out.size)
              obtain ⟨v', w7, hrun, hown', hb'⟩ := app_one (ty := 22) (x := .slice ua un uc) sliceII infoSI rfl (ho.out.below hbU) rfl hbw.size (by omega) (by decide) hbw (Nat.le_refl _)
              clear hvl2
              go_wp2_with (at_builtin; refine wpList_app hrun rfl _ _ rfl rfl rfl ?_)
              go_roundw
              case rel =>
                refine ⟨j + 1, us2 ++ [.slice ua un uc], by omega, by go_num, by rw [htn.out, if_neg (fun h => h3.out h.2)]; simp, hown', ?_, hb'⟩
                rw [hfn.out, h2.out, vals_append]
                exact hrr.out.snoc hrF.out hbk.out
              case measure => simp [intOf]; omega
    case inl =>
    replace hE := hid hE
    go_wp2_with fail
    go_loopw [7, 8, 9] (fun b i _ wr => ∃ (j : Nat) (M : List (Pm n)) (us : List Value), j ≤ L.length ∧ i = .int .i64 j ∧ SetC w wr f lo M us ∧ M.length = L.length ∧ (gar n).Eqv L M ∧ ((b = .bool false ∧ M = L' ∧ ∀ t, t < j → t + 1 < L.length → exl M t = 0) ∨ (b = .bool true ∧ far 0 M < far 0 L'))) (fun _ i _ _ => L.length - (intOf i).toNat)
    case atStart => exact ⟨0, L', us, by omega, rfl, hC, hLl, hE.out, .inl ⟨rfl, rfl, by omega⟩⟩
    case round =>
      clear hE hC us
      obtain ⟨j, M, us, hj, rfl, hC, hMl, hE, hbb⟩ := hrel
      replace hbb := hid hbb
      replace hE := hid hE
      have hln := hlen.out _ _ _ hC hMl
      by_cases hlt : j + 1 < L.length
      case neg =>
        go_wp2_with fail
        rcases hbb.out with ⟨rfl, rfl, hz⟩ | ⟨rfl, hlt2⟩
        · go_roundg 0
          case rel => exact ⟨M, us, hC, hMl, hE.out, .inr ⟨rfl, fun t ht => hz t (by omega) ht⟩⟩
          case measure => have := far_nonneg 0 M; omega
        · go_roundg (far 0 M + 1).toNat
          case rel => exact ⟨M, us, hC, hMl, hE.out, .inl ⟨rfl, by omega⟩⟩
          case measure => have := far_nonneg 0 M; omega
      case pos =>
      have hi := hC.own.reads.idx 22 sliceII sizeSI .i64 j (by omega) (by rw [hC.len]; omega)
      have hi2 := hC.own.reads.idx 22 sliceII sizeSI .i64 ((j : Int) + 1) (by omega) (by rw [hC.len]; omega)
      rw [show ((j : Int) + 1).toNat = j + 1 by omega] at hi2
      have hw1 := Go.IntWalk.i64_in ((j : Int) + 1) (by omega)
      simp only [Int.toNat_natCast] at hi
      have hK := hid (fun (w' : World) (hw : Below wr.heap.size wr w') => (⟨(hC.own.reads.below hw).cell j _ (vat_of (by rw [hC.len]; omega)), (hC.own.reads.below hw).cell (j + 1) _ (vat_of (by rw [hC.len]; omega))⟩ : w'.cell? (adr f j) = some (vat us j) ∧ w'.cell? (adr f (j + 1)) = some (vat us (j + 1))))
      have hX := hid (hC.extra hn (j := j) (by omega))
      replace hC := hid hC
      have hdz : wr.drew.heap.size = wr.heap.size := rfl
      clear hj
      go_wp2_with fail
      go_region_held3 (fun w' => w'.cell? (adr f j) = some (vat us j) ∧ w'.cell? (adr f (j + 1)) = some (vat us (j + 1))) (first | exact hK.out _ (Below.refl _ _).drew | exact hK.out _ hbS) ((first | (go_at_call 110; refine hX.out.mono ?_; rintro e w3 ⟨rfl, hs3⟩; have hbS : Below wr.heap.size wr w3 := (Below.refl _ wr).drew.trans hs3)))
      all_goals
        clear hX hK
        replace hC := hid (hC.out.next hbS)
        go_wp2_with fail
        go_loopg [7, 9] (far 0 M).toNat (fun g b x wr => ∃ (N : List (Pm n)) (us : List Value), SetC w wr f lo N us ∧ N.length = L.length ∧ (gar n).Eqv L N ∧ ((b = .bool false ∧ N = L' ∧ ∀ t, t < j → t + 1 < L.length → exl N t = 0) ∨ (b = .bool true ∧ far 0 N < far 0 L')) ∧ x = .int .i64 (exl N j) ∧ (far 0 N).toNat ≤ g)
        case atStart => exact ⟨M, us, hC.out, hMl, hE.out, hbb.out, rfl, Nat.le_refl _⟩
        case round =>
          clear hE hC hMl hbb hln hi hi2 hbS hs3
          obtain ⟨N, us, hC, hNl, hE, hbb, rfl, hgN⟩ := hrel
          replace hE := hid hE
          replace hbb := hid hbb
          by_cases hx : exl N j = 0
          · rw [hx]
            go_wp2_with fail
            go_roundw
            case rel =>
              refine ⟨j + 1, N, us, by omega, by go_num, hC, hNl, hE.out, ?_⟩
              rcases hbb.out with ⟨e1, e2, hz⟩ | ⟨e1, e2⟩
              · refine .inl ⟨e1, e2, fun t ht htl => ?_⟩
                by_cases e : t = j
                · rw [e]; exact hx
                · exact hz t (by omega) htl
              · exact .inr ⟨e1, e2⟩
            case measure => simp [intOf]; omega
          · obtain ⟨k, hkn, hk0, hke, hle, hrd⟩ := extra_ne (pat N j) (pat N (j + 1)) hx
            have hke' : exl N j = (k : Int) := hke
            obtain ⟨hEq, hfar⟩ := move_at (L := N) (i := j) (by omega) hkn hk0 hle hrd
            rw [hke']
            have hkk : ((k : Int) != 0) = true := by rw [bne_iff_ne]; omega
            clear hx hke hle hrd
            have hlj : j < N.length := by omega
            have hlj1 : j + 1 < N.length := by omega
            have hi := hC.own.reads.idx 22 sliceII sizeSI .i64 j (by omega) (by rw [hC.len]; omega)
            simp only [Int.toNat_natCast] at hi
            have hi2 := hC.own.reads.idx 22 sliceII sizeSI .i64 ((j : Int) + 1) (by omega) (by rw [hC.len]; omega)
            rw [show ((j : Int) + 1).toNat = j + 1 by omega] at hi2
            have hc := hC.own.reads.cell j _ (vat_of (by rw [hC.len]; omega))
            have hrow := hC.row hlj
            replace hC := hid hC
            replace hEq := hid hEq
            replace hfar := hid hfar
            go_wp2_with fail
            refine (behind_spec (k : Int) _ _ _ hrow (by rw [Pm.len]; omega) (by omega) (by omega)).mono ?_
            rintro e w3 ⟨x, rfl, hx, hs3⟩
            rw [back_val (pat N j) hkn hk0] at hx
            obtain ⟨xa, xn, xc, rfl⟩ : ∃ a m c, x = Value.slice a m c := by obtain ⟨a, c, e⟩ := hx.form3'; exact ⟨a, _, c, e⟩
            have hC3 := hC.out.next hs3
            have hc3 := hC3.own.reads.cell j _ (vat_of (by rw [hC3.len]; omega))
            have hf3 := hC3.own.frozen (i := j) (by rw [hC3.len]; omega)
            have hS := hC.out.set hs3 hlo hlj (p := mul (pat N j) (sg n k hkn)) hx
            clear hc hrow hC3 hx hs3 hC
            have hc4 := hS.own.reads.cell (j + 1) _ (vat_of (by rw [hS.len]; simpa using hlj1))
            have hrow4 := hS.row (i := j + 1) (by simpa using hlj1)
            replace hS := hid hS
            go_wp2_with fail
            refine (before_spec (k : Int) _ _ _ hrow4 (by rw [Pm.len]; omega) (by omega) (by rw [Pm.len]; omega)).mono ?_
            rintro e w5 ⟨y, rfl, hy, hs5⟩
            have e1 : pat (N.set j (mul (pat N j) (sg n k hkn))) (j + 1) = pat N (j + 1) := by simp [pat]
            rw [e1, Int.toNat_natCast, front_val (pat N (j + 1)) hkn hk0] at hy
            obtain ⟨ya, yn, yc, rfl⟩ : ∃ a m c, y = Value.slice a m c := by obtain ⟨a, c, e⟩ := hy.form3'; exact ⟨a, _, c, e⟩
            have hC5 := hS.out.next hs5
            have hc5 := hC5.own.reads.cell (j + 1) _ (vat_of (by rw [hC5.len]; simpa using hlj1))
            have hf5 := hC5.own.frozen (i := j + 1) (by rw [hC5.len]; simpa using hlj1)
            have hT := hS.out.set hs5 hlo (i := j + 1) (by simpa using hlj1) (p := mul (sg n k hkn) (pat N (j + 1))) hy
            clear hc4 hrow4 hC5 hy hs5 hS hc3 hf3
            replace hT : SetC w _ f lo (mv N j (mul (pat N j) (sg n k hkn)) (mul (sg n k hkn) (pat N (j + 1)))) _ := hT
            have hE' := hid ((gar n).eqv_trans hE.out hEq.out)
            have hml := hid (length_mv N j (mul (pat N j) (sg n k hkn)) (mul (sg n k hkn) (pat N (j + 1))))
            clear hE hEq
            generalize hM' : mv N j (mul (pat N j) (sg n k hkn)) (mul (sg n k hkn) (pat N (j + 1))) = M' at *
            clear hM' e1
            have hMl' := hml.out
            generalize hvs' : (us.set j (.slice xa xn xc)).set (j + 1) (.slice ya yn yc) = us' at *
            clear hvs'
            replace hT := hid hT
            go_wp2_with fail
            generalize hWT : w5.setCell (adr f (j + 1)) (Value.slice ya yn yc) = wT at *
            clear hWT hc5 hf5
            have hdz : wT.drew.heap.size = wT.heap.size := rfl
            have hK := hid (fun (w' : World) (hw : Below wT.heap.size wT w') => (⟨(hT.out.own.reads.below hw).cell j _ (vat_of (by rw [hT.out.len]; omega)), (hT.out.own.reads.below hw).cell (j + 1) _ (vat_of (by rw [hT.out.len]; omega))⟩ : w'.cell? (adr f j) = some (vat us' j) ∧ w'.cell? (adr f (j + 1)) = some (vat us' (j + 1))))
            have hX := hid (hT.out.extra hn (j := j) (by omega))
            go_region_held3 (fun w' => w'.cell? (adr f j) = some (vat us' j) ∧ w'.cell? (adr f (j + 1)) = some (vat us' (j + 1))) (first | exact hK.out _ (Below.refl _ _).drew | exact hK.out _ hbS) ((first | (go_at_call 110; refine hX.out.mono ?_; rintro e w6 ⟨rfl, hs6⟩; have hbS : Below wT.heap.size wT w6 := (Below.refl _ wT).drew.trans hs6)))
            all_goals
              clear hX hK
              replace hT := hid (hT.out.next hbS)
              go_wp2_with fail
              go_roundg (far 0 M').toNat
              case rel => exact ⟨M', us', hT.out, by omega, hE'.out, .inr ⟨rfl, by have := hfar.out; rcases hbb.out with ⟨-, e2, -⟩ | ⟨-, e2⟩; rw [← e2]; omega; omega⟩, rfl, Nat.le_refl _⟩
              case measure => have := hfar.out; have := far_nonneg 0 M'; have := far_nonneg 0 N; omega


end Go.Proofs.Ytmeccemnmkobbaa

namespace Go.Proofs.Ytmeccemnmkobbaa
open Go.RowKit
open Pm

/-- the call's own slice o of rows that can be read, in blocks from lo on, none of them o's own -/
structure RowsO (w : World) (lo B : Nat) (o : Value) (us : List Value) (ls : List (List Int)) : Prop where
  own : Own w B 32 o us
  rows : RowsB w lo us ls
  ap : ∀ i, i < ls.length → Apart (vat us i) o
theorem RowsO.below {w w' : World} {lo B : Nat} {o : Value} {us : List Value} {ls : List (List Int)} (h : RowsO w lo B o us ls) (hb : Below w.heap.size w w') : RowsO w' lo B o us ls := ⟨h.own.below hb, h.rows.below hb, h.ap⟩
theorem RowsO.lower {w : World} {lo lo' B B' : Nat} {o : Value} {us : List Value} {ls : List (List Int)} (h : RowsO w lo B o us ls) (h1 : lo' ≤ lo) (h2 : B' ≤ B) : RowsO w lo' B' o us ls := ⟨h.own.mono h2, ⟨h.rows.rows, fun i hi k hk => by have := h.rows.blks i hi k hk; omega⟩, h.ap⟩
theorem RowsO.empty (w : World) (lo B : Nat) (hB : B ≤ w.heap.size) : RowsO (w.alloc (.cells #[] 32)) lo B (.slice (some ⟨w.heap.size, 0, none⟩) 0 0) [] [] :=
  ⟨own_empty w _ hB, ⟨⟨rfl, fun i hi => absurd hi (by simp)⟩, fun i hi => absurd hi (by simp)⟩, fun i hi => absurd hi (by simp)⟩
theorem RowsO.len {w : World} {lo B : Nat} {o : Value} {us : List Value} {ls : List (List Int)} (h : RowsO w lo B o us ls) : us.length = ls.length := h.rows.rows.len
theorem Bx.belowB {w w' : World} {g B : Nat} {cs : List Value} (h : Bx w g cs) (hb : Below B w w') (hg : g < B) : Bx w' g cs := h.keep (hb.block g hg)
theorem RowsB.set_block {w : World} {lo : Nat} {us : List Value} {ls : List (List Int)} (h : RowsB w lo us ls) {g : Nat} (h1 : g < lo) (i : Nat) (x : Value) : RowsB (w.setCell ⟨g, i, none⟩ x) lo us ls :=
  ⟨⟨h.rows.len, fun j hj => (h.rows.row j hj).keep fun k hk _ => Below.heap_setCell _ _ _ _ (fun e => by have := h.blks j hj k hk; simp at e; omega)⟩, fun j hj k hk => by have := h.blks j hj k hk; simpa [World.setCell] using this⟩
theorem RowsB.lower {w : World} {lo lo' : Nat} {us : List Value} {ls : List (List Int)} (h : RowsB w lo us ls) (h1 : lo' ≤ lo) : RowsB w lo' us ls := ⟨h.rows, fun i hi k hk => by have := h.blks i hi k hk; omega⟩
theorem RowsO.set_block {w : World} {lo B : Nat} {o : Value} {us : List Value} {ls : List (List Int)} (h : RowsO w lo B o us ls) {g : Nat} (h1 : g < lo) (h2 : g < B) (i : Nat) (x : Value) : RowsO (w.setCell ⟨g, i, none⟩ x) lo B o us ls :=
  ⟨h.own.set_block h2 i x, ⟨⟨h.rows.rows.len, fun j hj => (h.rows.rows.row j hj).keep fun k hk _ => Below.heap_setCell _ _ _ _ (fun e => by have := h.rows.blks j hj k hk; simp at e; omega)⟩, fun j hj k hk => by have := h.rows.blks j hj k hk; simpa [World.setCell] using this⟩, h.ap⟩
/-- a row is put behind -/
theorem RowsO.app {w : World} {lo B : Nat} {o u : Value} {us : List Value} {ls : List (List Int)} {l : List Int} (h : RowsO w lo B o us ls) (hu : Reads w u (ints l)) (hk : ∀ k, blk u = some k → lo ≤ k ∧ k < w.heap.size) (hap : Apart u o) (h1 : u.oneCell' = true) (hB : B ≤ w.heap.size) (hl : us.length ≤ 1048576) :
    ∃ v' w', (Builtin.append_ #[22, 22] 22 #[o, .slice (some ⟨w.heap.size, 0, none⟩) 1 1]).run Try.prog (w.alloc (.cells #[u] 32)) = .ok v' w' ∧ RowsO w' lo B v' (us ++ [u]) (ls ++ [l]) ∧ Below B w w' := by
  have ha : Below w.heap.size w (w.alloc (.cells #[u] 32)) := (Below.refl _ _).alloc (Nat.le_refl _) _
  have hA := h.below ha
  obtain ⟨v', w', hr, ho, hg, hst⟩ := app_runF (ty := 22) sliceII infoSI rfl hA.own (reads_one w u 32) (by simpa using h1) (by simp; omega) (by simp; omega) (by decide)
  have hbw : Below B w w' := (ha.mono hB).grown hg (by simp; omega) (fun k hk => (hA.own.blk_lt hk).1)
  have hsz := hbw.size
  have hkeep : ∀ {v : Value} {xs : List Value}, Reads w v xs → Apart v o → Reads w' v xs := fun {v xs} hr ha2 =>
    (hr.below ha).keep fun k hk hlt => hg.block k hlt (fun e => ha2 k hk e)
  have hst' : ∀ {v : Value}, (∀ k, blk v = some k → k < w.heap.size) → Apart v o → Apart v v' := fun {v} hv ha2 k hk e => by
    rcases hst k e.symm with h1 | h1
    · exact ha2 k hk h1.symm
    · have := hv k hk; simp at h1; omega
  have hl := h.len
  refine ⟨v', w', hr, ⟨ho, ⟨⟨by simp [hl], fun i hi => ?_⟩, fun i hi k hk' => ?_⟩, fun i hi => ?_⟩, hbw⟩
  · rw [List.length_append, List.length_singleton] at hi
    by_cases e : i < ls.length
    · rw [vat_snoc (by omega), rat_snoc e]; exact hkeep (h.rows.rows.row i e) (h.ap i e)
    · obtain rfl : i = ls.length := by omega
      rw [rat_last, ← hl, vat_last]; exact hkeep hu hap
  · rw [List.length_append, List.length_singleton] at hi
    by_cases e : i < ls.length
    · rw [vat_snoc (by omega)] at hk'; have := h.rows.blks i e k hk'; omega
    · obtain rfl : i = ls.length := by omega
      rw [← hl, vat_last] at hk'; have := hk k hk'; omega
  · rw [List.length_append, List.length_singleton] at hi
    by_cases e : i < ls.length
    · rw [vat_snoc (by omega)]; exact hst' (fun k hk => (h.rows.blks i e k hk).2) (h.ap i e)
    · obtain rfl : i = ls.length := by omega
      rw [← hl, vat_last]; exact hst' (fun k hk' => (hk k hk').2) hap
/-- a row that the call has just made is put behind -/
theorem RowsO.new {w w1 : World} {lo B : Nat} {o u : Value} {us : List Value} {ls : List (List Int)} {l : List Int} (h : RowsO w lo B o us ls) (hb : Below w.heap.size w w1) (hu : Own w1 w.heap.size 2 u (ints l)) (hlo : lo ≤ w.heap.size) (hB : B ≤ w.heap.size) (hl : us.length ≤ 1048576) :
    ∃ v' w', (Builtin.append_ #[22, 22] 22 #[o, .slice (some ⟨w1.heap.size, 0, none⟩) 1 1]).run Try.prog (w1.alloc (.cells #[u] 32)) = .ok v' w' ∧ RowsO w' lo B v' (us ++ [u]) (ls ++ [l]) ∧ Below B w1 w' := by
  have hsz := hb.size
  refine (h.below hb).app hu.reads (fun k hk => by have := hu.blk_lt hk; omega) (apart_new' h.own hu) ?_ (by omega) hl
  obtain ⟨a, c, e, -⟩ := hu.reads.form
  rw [e]; rfl
theorem take_pat {n : Nat} {L : List (Pm n)} {j : Nat} (h : j < L.length) : L.take (j + 1) = L.take j ++ [pat L j] := by rw [List.take_add_one, pat_of h]; rfl

set_option maxRecDepth 100000 in
set_option maxHeartbeats 2000000 in
theorem flipAll_spec {n : Nat} (v : Value) (vs : List Value) (L : List (Pm n)) (w : World) (lo : Nat) (hlo : lo ≤ w.heap.size) (h : Reads w v vs) (hr : RowsB w lo vs (vals L)) (hl : L.length ≤ 1048576) (hn : n ≤ 12) :
    Calls Try.prog 104 #[v] w fun e w' => ∃ u us, e = .returned u ∧ RowsO w' lo w.heap.size u us (vals (L.map (gar n).tau)) ∧ Below w.heap.size w w' := by
  have hvl : vs.length = L.length := by have := hr.rows.len; simpa using this
  have hlen := h.len (P := Try.prog) 22 3 ⟨_, sliceII⟩
  rw [hvl] at hlen
  go_enter Try.func104, Try.ntmps104
  go_wp2_with fail
  go_loopw [3, 4] (fun o i wr => ∃ (j : Nat) (us : List Value), j ≤ L.length ∧ i = .int .i64 j ∧ RowsO wr lo w.heap.size o us (vals ((L.take j).map (gar n).tau)) ∧ Below w.heap.size w wr) (fun _ i _ => L.length - (intOf i).toNat)
  case atStart => exact ⟨0, [], by omega, rfl, RowsO.empty w lo _ (Nat.le_refl _), (Below.refl _ _).alloc (Nat.le_refl _) _⟩
  case round =>
    obtain ⟨j, us, hj, rfl, hO, hb⟩ := hrel
    by_cases hlt : j < L.length
    · have hi := h.idx 22 sliceII sizeSI .i64 j (by omega) (by omega)
      simp only [Int.toNat_natCast] at hi
      have hc := (h.below hb).cell j _ (vat_of (by omega))
      have hrow := (hr.rows.below hb).row j (by simpa using hlt)
      rw [rat_vals hlt] at hrow
      have hol := hO.len
      rw [length_vals, List.length_map, List.length_take] at hol
      have hO' := hid hO
      have hb' := hid hb
      have htk := hid (take_pat hlt)
      have hszb := hb.size
      clear hO hb hvl
      generalize pat L j = p at *
      go_wp2_with fail
      refine (flip_spec _ _ _ hrow (by rw [p.len]; omega) (Pm.small p)).mono ?_
      rintro e w1 ⟨x, rfl, hx, hs1⟩
      rw [flip_val] at hx
      obtain ⟨xa, xn, xc, rfl⟩ : ∃ a m c, x = Value.slice a m c := by obtain ⟨a, c, e⟩ := hx.form3'; exact ⟨a, _, c, e⟩
      obtain ⟨v', w2, hrun, hO2, hb2⟩ := hO'.out.new hs1 hx (by omega) hszb (by omega)
      clear hol
      go_wp2_with (at_builtin; refine wpList_app hrun rfl _ _ rfl rfl rfl ?_)
      go_roundw
      case rel => exact ⟨j + 1, _, by omega, by go_num, by rw [htk.out, List.map_append, vals_append]; exact hO2, hb'.out.trans ((hs1.mono hszb).trans hb2)⟩
      case measure => simp [intOf]; omega
    · obtain rfl : j = L.length := by omega
      rw [List.take_of_length_le (Nat.le_refl _)] at hO
      go_wp2_with fail
      go_ret
      exact ⟨_, us, rfl, hO, hb⟩


theorem inv_sg {n k : Nat} (h : k < n) : (gar n).inv (sg n k h) = sg n k h := (gar n).mul_left (a := sg n k h) (by rw [(gar n).mul_inv]; exact (sg_sg h).symm)
theorem stp_up {n : Nat} {k : Int} (h0 : 0 < k) (h1 : k.toNat < n) (x : Gar.St (Pm n)) : (gar n).stp x (ltr n k) = (x.1, x.2 ++ [mul (one n) (sg n k.toNat h1)]) := by
  have e1 : ltr n k = (true, sg n k.toNat h1) := by
    unfold ltr
    rw [show k.natAbs = k.toNat by omega, sgT_eq h1]; simp [h0]
  rw [e1, Gar.stp_pos]
  congr 2
  exact congrArg (fun y => [y]) ((gar n).one_mul _).symm
theorem stp_down {n m : Nat} (h0 : 0 < m) (h1 : m < n) (x : Gar.St (Pm n)) : (gar n).stp x (ltr n (-(m : Int))) = (x.1 - 1, x.2.map (gar n).tau ++ [mul (top n) (sg n m h1)]) := by
  have e1 : ltr n (-(m : Int)) = (false, sg n m h1) := by
    unfold ltr
    rw [show (-(m : Int)).natAbs = m by omega, sgT_eq h1]; simp
  rw [e1, Gar.stp_neg, inv_sg]; rfl
/-- the state behind the first letters -/
def stTo (n : Nat) (l : List Int) (j : Nat) : Gar.St (Pm n) := (gar n).raw (lts n (l.take j))
theorem stTo_zero (n : Nat) (l : List Int) : stTo n l 0 = (0, []) := rfl
theorem stTo_succ {n : Nat} {l : List Int} {j : Nat} (h : j < l.length) : stTo n l (j + 1) = (gar n).stp (stTo n l j) (ltr n (nth l j)) := by
  unfold stTo
  rw [List.take_add_one, nth_of h, Option.toList_some, lts_append, Gar.raw_append]; rfl
theorem stTo_len {n : Nat} (l : List Int) (j : Nat) : (stTo n l j).2.length ≤ j ∧ -(j : Int) ≤ (stTo n l j).1 ∧ (stTo n l j).1 ≤ 0 := by
  induction j with
  | zero => simp [stTo_zero]
  | succ j ih =>
    by_cases h : j < l.length
    · rw [stTo_succ h]
      unfold Gar.stp
      split
      · simp; omega
      · simp; omega
    · have e : stTo n l (j + 1) = stTo n l j := by unfold stTo; rw [List.take_of_length_le (by omega), List.take_of_length_le (by omega)]
      rw [e]; omega
theorem nfW_of {n : Nat} (l : List Int) : nfW n l = ((stTo n l l.length).1 + ((gar n).NF (0, (stTo n l l.length).2)).1, ((gar n).NF (0, (stTo n l l.length).2)).2) := by
  have e : (gar n).raw (lts n l) = stTo n l l.length := by unfold stTo; rw [List.take_length]
  unfold nfW
  rw [e]
  have := (gar n).NF_up (stTo n l l.length).1 0 (stTo n l l.length).2
  rw [show (0 : Int) + (stTo n l l.length).1 = (stTo n l l.length).1 by omega] at this
  show (gar n).NF ((stTo n l l.length).1, (stTo n l l.length).2) = _
  rw [this, Int.add_comm]

set_option maxRecDepth 100000 in
set_option maxHeartbeats 4000000 in
theorem normal_spec (n : Nat) (v : Value) (l : List Int) (w : World) (h : Reads w v (ints l)) (hl : l.length ≤ 1000) (hr : ∀ i, i < l.length → nth l i ≠ 0 ∧ 1 - (n : Int) ≤ nth l i ∧ nth l i ≤ n - 1) (hn : n ≤ 12) :
    Calls Try.prog 102 #[.int .i64 (n : Int), v] w fun e w' => ∃ u us, e = .returned (.agg #[.int .i64 n, .int .i64 (nfW n l).1, u]) ∧ Own w' w.heap.size 32 u us ∧ RowsB w' w.heap.size us (vals (nfW n l).2) ∧ Below w.heap.size w w' := by
  have hs := h.small
  have hlen := h.len (P := Try.prog) 32 3 ⟨_, sliceI⟩
  simp only [length_ints] at hs hlen
  have hA0 := (Bx.new w #[.int .i64 0, .int .i64 0, .slice none 0 0] 27).alloc (.cells #[.int .i64 (n : Int), .int .i64 0, .slice none 0 0] 27)
  have hB0 := Bx.new (w.alloc (.cells #[.int .i64 0, .int .i64 0, .slice none 0 0] 27)) #[.int .i64 (n : Int), .int .i64 0, .slice none 0 0] 27
  have hbox : Below w.heap.size w ((w.alloc (.cells #[.int .i64 0, .int .i64 0, .slice none 0 0] 27)).alloc (.cells #[.int .i64 (n : Int), .int .i64 0, .slice none 0 0] 27)) := ((Below.refl _ _).alloc (Nat.le_refl _) _).alloc (by simp) _
  have hsz2 : ((w.alloc (.cells #[.int .i64 0, .int .i64 0, .slice none 0 0] 27)).alloc (.cells #[.int .i64 (n : Int), .int .i64 0, .slice none 0 0] 27)).heap.size = w.heap.size + 1 + 1 := by simp
  simp only [World.size_alloc] at hB0
  go_enter Try.func102, Try.ntmps102
  go_wp2_with fail
  generalize hW : (w.alloc (.cells #[.int .i64 0, .int .i64 0, .slice none 0 0] 27)).alloc (.cells #[.int .i64 (n : Int), .int .i64 0, .slice none 0 0] 27) = w2 at *
  clear hW
  go_loopw [6, 7, 8] (fun o i _ wr => ∃ (j : Nat) (us : List Value), j ≤ l.length ∧ i = .int .i64 j ∧ RowsO wr w2.heap.size w2.heap.size o us (vals (stTo n l j).2) ∧ Bx wr (w.heap.size + 1) [.int .i64 (n : Int), .int .i64 (stTo n l j).1, .slice none 0 0] ∧ Bx wr w.heap.size [.int .i64 0, .int .i64 0, .slice none 0 0] ∧ Below w.heap.size w wr ∧ w2.heap.size ≤ wr.heap.size) (fun _ i _ _ => l.length - (intOf i).toNat)
  case atStart => exact ⟨0, [], by omega, rfl, by rw [← hsz2]; exact RowsO.empty w2 _ _ (Nat.le_refl _), hB0.alloc _, hA0.alloc _, hbox.alloc (by omega) _, by simp⟩
  case round =>
    clear hA0 hB0
    obtain ⟨j, us, hj, rfl, hO, hB, hA, hb, hwz⟩ := hrel
    have hstl := stTo_len (n := n) l j
    have hol := hO.len
    rw [length_vals] at hol
    by_cases hlt : j < l.length
    case pos =>
      have hi := h.idx 32 sliceI sizeI .i64 j (by omega) (by simpa using hlt)
      simp only [Int.toNat_natCast] at hi
      have hc := (h.below hb).int hlt
      obtain ⟨k0, k1, k2⟩ := hr j hlt
      have hst := hid (stTo_succ (n := n) hlt)
      replace hr := hid hr
      generalize nth l j = k at *
      generalize hx : stTo n l j = x at *
      clear hx
      have habs := hid (fun w => abs_spec k w (by omega))
      have hO' := hid hO
      have hb' := hid hb
      have hB' := hid hB
      have hA' := hid hA
      by_cases hk : 0 < k
      · obtain ⟨m, rfl⟩ : ∃ m : Nat, k = m := ⟨k.toNat, by omega⟩
        have hkn : m < n := by omega
        have ea : absI (m : Int) = m := by unfold absI; rw [if_neg (by omega)]
        rw [ea] at habs
        have hup := hid (stp_up (n := n) hk (by simpa using hkn) x)
        clear hb hB hA hO ea
        go_wp2_with fail
        refine (habs.out _).mono ?_
        rintro e w3 ⟨rfl, rfl⟩
        go_wp2_with fail
        refine (id4_spec (n : Int) _ (by omega) (by omega)).mono ?_
        rintro e w4 ⟨y, rfl, hy, hs4⟩
        rw [Int.toNat_natCast, idn_val] at hy
        go_wp2_with fail
        refine (behind_spec (m : Int) _ _ _ hy.reads (by rw [Pm.len]; omega) (by omega) (by omega)).mono ?_
        rintro e w5 ⟨z, rfl, hz, hs5⟩
        rw [back_val (one n) hkn (by omega)] at hz
        obtain ⟨za, zn, zc, rfl⟩ : ∃ a m c, z = Value.slice a m c := by obtain ⟨a, c, e⟩ := hz.form3'; exact ⟨a, _, c, e⟩
        have hz4 := hs4.size
        have hz5 := hs5.size
        obtain ⟨v', w6, hrun, hO2, hb2⟩ := (hO'.out.below hs4).new hs5 hz (by omega) (by omega) (by omega)
        clear hol hy
        have hz6 := hb2.size
        go_wp2_with (at_builtin; refine wpList_app hrun rfl _ _ rfl rfl rfl ?_)
        go_roundw
        case rel =>
          refine ⟨j + 1, us ++ [.slice za zn zc], by omega, by go_num, ?_, ?_, ?_, ?_, by omega⟩
          · rw [hst.out, hup.out, vals_append]; exact hO2
          · rw [hst.out, hup.out]; exact (((hB'.out.below hs4).below hs5).belowB hb2 (by omega))
          · exact (((hA'.out.below hs4).below hs5).belowB hb2 (by omega))
          · exact ((hb'.out.trans (hs4.mono (by omega))).trans (hs5.mono (by omega))).trans (hb2.mono (by omega))
        case measure => simp [intOf]; omega
      · obtain ⟨m, rfl⟩ : ∃ m : Nat, k = -(m : Int) := ⟨(-k).toNat, by omega⟩
        have hkn : m < n := by omega
        have ea : absI (-(m : Int)) = m := by unfold absI; rw [if_pos (by omega)]; omega
        rw [ea] at habs
        have hup := hid (stp_down (n := n) (by omega) hkn x)
        have hc1 := hB.cell 1 rfl
        have hf1 := hB.frozen 1
        have hB2 := hid (hB.set 1 (.int .i64 (x.1 - 1)))
        have hA2 := hid (hA.other (a := ⟨w.heap.size + 1, 1, none⟩) (by simp) (.int .i64 (x.1 - 1)))
        have hO2 := hid (hO.set_block (g := w.heap.size + 1) (by omega) (by omega) 1 (.int .i64 (x.1 - 1)))
        have hb2 := hid (show Below w.heap.size w (wr.setCell ⟨w.heap.size + 1, 1, none⟩ (.int .i64 (x.1 - 1))) from hb.setCell (by simp) _)
        have hsz3 : (wr.setCell ⟨w.heap.size + 1, 1, none⟩ (.int .i64 (x.1 - 1))).heap.size = wr.heap.size := by simp [World.setCell]
        clear hb hB hA hO ea hO' hb' hB' hA'
        go_wp2_with fail
        refine (habs.out _).mono ?_
        rintro e w3 ⟨rfl, rfl⟩
        go_wp2_with fail
        generalize hWS : wr.setCell ⟨w.heap.size + 1, 1, none⟩ (.int .i64 (x.1 - 1)) = wS at *
        clear hWS hc1 hf1
        refine (flipAll_spec u6 us x.2 wS w2.heap.size (by omega) hO2.out.own.reads hO2.out.rows (by omega) hn).mono ?_
        rintro e w4 ⟨q, us2, rfl, hq, hs4⟩
        go_wp2_with fail
        refine (half_spec (n : Int) _ (by omega) (by omega)).mono ?_
        rintro e w5 ⟨y, rfl, hy, hs5⟩
        rw [Int.toNat_natCast, half_val] at hy
        go_wp2_with fail
        refine (behind_spec (m : Int) _ _ _ hy.reads (by rw [Pm.len]; omega) (by omega) (by omega)).mono ?_
        rintro e w6 ⟨z, rfl, hz, hs6⟩
        rw [back_val (top n) hkn (by omega)] at hz
        obtain ⟨za, zn, zc, rfl⟩ : ∃ a m c, z = Value.slice a m c := by obtain ⟨a, c, e⟩ := hz.form3'; exact ⟨a, _, c, e⟩
        have hz4 := hs4.size
        have hz5 := hs5.size
        have hz6 := hs6.size
        have hql := hq.len
        rw [length_vals, List.length_map] at hql
        obtain ⟨v', w7, hrun, hO3, hb3⟩ := ((hq.lower (Nat.le_refl _) (show w2.heap.size ≤ wS.heap.size by omega)).below hs5).new hs6 hz (by omega) (by omega) (by omega)
        clear hol hy hq hql
        have hz7 := hb3.size
        go_wp2_with (at_builtin; refine wpList_app hrun rfl _ _ rfl rfl rfl ?_)
        go_roundw
        case rel =>
          refine ⟨j + 1, us2 ++ [.slice za zn zc], by omega, by go_num, ?_, ?_, ?_, ?_, by omega⟩
          · rw [hst.out, hup.out, vals_append]; exact hO3
          · rw [hst.out, hup.out]; exact ((((hB2.out.below hs4).below hs5).below hs6).belowB hb3 (by omega))
          · exact ((((hA2.out.below hs4).below hs5).below hs6).belowB hb3 (by omega))
          · exact (((hb2.out.trans (hs4.mono (by omega))).trans (hs5.mono (by omega))).trans (hs6.mono (by omega))).trans (hb3.mono (by omega))
        case measure => simp [intOf]; omega
    case neg =>
      obtain rfl : j = l.length := by omega
      have hnf := hid (nfW_of (n := n) l)
      generalize stTo n l l.length = x at *
      have hO' := hid hO
      have hb' := hid hb
      have hA' := hid hA
      have hB' := hid hB
      clear hO hb hA hB
      go_wp2_with fail
      refine (settle_spec u6 us x.2 wr w2.heap.size hwz hO'.out.own.reads hO'.out.rows (by omega) hn).mono ?_
      rintro e w3 ⟨q, us2, rfl, hq, hqr, hs3, htp⟩
      obtain ⟨qa, qn, qc, rfl⟩ : ∃ a m c, q = Value.slice a m c := by obtain ⟨a, c, e⟩ := hq.form3'; exact ⟨a, _, c, e⟩
      have hB3 := hB'.out.below hs3
      have hA3 := hA'.out.below hs3
      have hz3 := hs3.size
      have c0 := hB3.cell 0 rfl
      have c1 := hB3.cell 1 rfl
      have c2 := hB3.cell 2 rfl
      have d0 := hA3.cell 0 rfl
      have d1 := hA3.cell 1 rfl
      have d2 := hA3.cell 2 rfl
      have f1 := hB3.frozen 1
      have f2 := hB3.frozen 2
      have g0 := hA3.frozen 0
      have g1 := hA3.frozen 1
      have g2 := hA3.frozen 2
      generalize ((gar n).NF (0, x.2)).1 = pw at *
      have hB4 := (hB3.set 1 (.int .i64 (x.1 + pw)))
      have hB5 := hB4.set 2 (.slice qa qn qc)
      go_wp2_with fail
      have hA5 := (((((hA3.other (a := ⟨w.heap.size + 1, 1, none⟩) (by simp) (.int .i64 (x.1 + pw))).other (a := ⟨w.heap.size + 1, 2, none⟩) (by simp) (.slice qa qn qc))).set 0 (.int .i64 (n : Int))).set 1 (.int .i64 (x.1 + pw))).set 2 (.slice qa qn qc)
      have a0 := hA5.cell 0 rfl
      have a1 := hA5.cell 1 rfl
      have a2 := hA5.cell 2 rfl
      have hq2 := ((((hq.set_block (g := w.heap.size + 1) (by omega) 1 (.int .i64 (x.1 + pw))).set_block (g := w.heap.size + 1) (by omega) 2 (.slice qa qn qc)).set_block (g := w.heap.size) (by omega) 0 (.int .i64 (n : Int))).set_block (g := w.heap.size) (by omega) 1 (.int .i64 (x.1 + pw))).set_block (g := w.heap.size) (by omega) 2 (.slice qa qn qc)
      have hr2 := ((((hqr.set_block (g := w.heap.size + 1) (by omega) 1 (.int .i64 (x.1 + pw))).set_block (g := w.heap.size + 1) (by omega) 2 (.slice qa qn qc)).set_block (g := w.heap.size) (by omega) 0 (.int .i64 (n : Int))).set_block (g := w.heap.size) (by omega) 1 (.int .i64 (x.1 + pw))).set_block (g := w.heap.size) (by omega) 2 (.slice qa qn qc)
      refine bodyPost_ret (v := .agg #[.int .i64 (n : Int), .int .i64 (x.1 + pw), .slice qa qn qc]) (by simp [a0, a1, a2, results, Try.results102, go_sem]) rfl ⟨_, us2, by rw [hnf.out], hq2.mono (by omega), by rw [hnf.out]; exact hr2.lower (by omega), ?_⟩
      exact (((((hb'.out.trans (hs3.mono (by omega))).setCell (by simp) _).setCell (by simp) _).setCell (by simp) _).setCell (by simp) _).setCell (by simp) _


end Go.Proofs.Ytmeccemnmkobbaa
