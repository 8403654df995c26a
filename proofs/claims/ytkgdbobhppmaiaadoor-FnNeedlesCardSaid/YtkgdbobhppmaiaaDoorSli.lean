/- Slices of slices: v[k:], v[i:j], for reading and for writing. Plain laws of memory. -/
import Derived.Test.YtkgdbobhppmaiaaDoorApp
namespace Go.Proofs.YtkgdbobhppmaiaaDoor
open Go.RowKit

/-- v[i:j] -/
def part : Value → Nat → Nat → Value
  | .slice a _ c, i, j => .slice (if c = i then a else a.map (·.add i)) (j - i) (c - i)
  | v, _, _ => v

theorem adr_part (a : Option Addr) (n c i j t : Nat) (h : c ≠ i) (hs : ∀ x, a = some x → x.spot = none) : adr (part (.slice a n c) i j) t = adr (.slice a n c) (i + t) := by
  cases a with
  | none => simp [part, adr, h]
  | some x =>
    obtain ⟨b, o, s⟩ := x
    have : s = none := hs _ rfl
    subst this
    simp only [part, h, if_false, Option.map_some, adr, add_lit]
    congr 1; omega

theorem Reads.part {w : World} {v : Value} {xs : List Value} (h : Reads w v xs) (i j : Nat) (hi : i ≤ j) (hj : j ≤ xs.length) : Reads w (part v i j) ((xs.take j).drop i) := by
  obtain ⟨⟨a, c, rfl, ha⟩, hs, hcap, hc⟩ := h
  have hcc := hcap _ _ _ rfl
  have hlen : ((xs.take j).drop i).length = j - i := by simp; omega
  refine ⟨⟨_, c - i, by simp only [Go.Proofs.YtkgdbobhppmaiaaDoor.part]; rw [hlen], ?_⟩, by rw [hlen]; omega, by rintro a' n' c' e; simp only [Go.Proofs.YtkgdbobhppmaiaaDoor.part, Value.slice.injEq] at e; omega, ?_⟩
  · intro hne
    have hx : xs ≠ [] := by intro e; rw [e] at hne; simp at hne
    split
    · exact ha hx
    · cases a with
      | none => exact absurd rfl (ha hx)
      | some a => simp
  · intro t x hx
    have ht : t < j - i := by
      rcases Nat.lt_or_ge t (j - i) with h | h
      · exact h
      · rw [List.getElem?_eq_none (by rw [hlen]; exact h)] at hx; cases hx
    rw [List.getElem?_drop, List.getElem?_take, if_pos (by omega)] at hx
    have hne : c ≠ i := by omega
    have h0 := hc (i + t) x hx
    cases a with
    | none => exact absurd rfl (ha (by intro e; rw [e] at hx; simp at hx))
    | some a =>
      have hsp : a.spot = none := by
        have hy : (0 : Nat) < xs.length := by omega
        have h1 := hc 0 _ (List.getElem?_eq_getElem hy)
        have : adr (.slice (some a) xs.length c) 0 = a := by simp [adr, Addr.add]
        rw [this] at h1
        cases hsp : a.spot with
        | none => rfl
        | some s => simp [World.cell?, hsp] at h1; split at h1 <;> simp_all
      rw [adr_part (some a) xs.length c i j t hne (by rintro x e; cases e; exact hsp)]
      exact h0

/-- v[k:] is v[k:len] -/
theorem onwards_part (v : Value) (n k : Nat) (hv : ∃ a c, v = .slice a n c) : onwards v k = part v k n := by
  obtain ⟨a, c, rfl⟩ := hv; rfl

theorem Reads.onwards {w : World} {v : Value} {xs : List Value} (h : Reads w v xs) (k : Nat) (hk : k ≤ xs.length) : Reads w (onwards v k) (xs.drop k) := by
  obtain ⟨a, c, e, _⟩ := h.form
  rw [onwards_part v xs.length k ⟨a, c, e⟩]
  have := h.part k xs.length hk (Nat.le_refl _)
  rwa [List.take_of_length_le (Nat.le_refl _)] at this

theorem Reads.onwards_run {w : World} {v : Value} {xs : List Value} (h : Reads w v xs) {P : Program} {T e : TypeId} (hT : P.underlying T = some (.slice e)) (hs : (sizeOf e).run P = fun w => .ok 1 w)
    (kd : IntKind) (k : Int) (h0 : 0 ≤ k) (hk : k ≤ (xs.length : Nat)) (w' : World) :
    (Instr.slice T v (some (.int kd k)) none none).run P w' = .ok (Go.Proofs.YtkgdbobhppmaiaaDoor.onwards v k.toNat) w' := by
  obtain ⟨a, c, rfl, ha⟩ := h.form
  have he : P.elem T = e := by simp [Program.elem, hT]
  rw [run_slice_l w' T a xs.length c (by rw [he]; exact hT) kd k h0 (by omega), he, hs]
  simp [Result.andThen, sliced, Go.Proofs.YtkgdbobhppmaiaaDoor.onwards]

theorem Reads.part_run {w : World} {v : Value} {xs : List Value} (h : Reads w v xs) {P : Program} {T e : TypeId} (hT : P.underlying T = some (.slice e)) (hs : (sizeOf e).run P = fun w => .ok 1 w)
    (kd kd' : IntKind) (i j : Int) (h0 : 0 ≤ i) (hij : i ≤ j) (hj : j ≤ (xs.length : Nat)) (w' : World) :
    (Instr.slice T v (some (.int kd i)) (some (.int kd' j)) none).run P w' = .ok (Go.Proofs.YtkgdbobhppmaiaaDoor.part v i.toNat j.toNat) w' := by
  obtain ⟨a, c, rfl, ha⟩ := h.form
  have hc := h.cap _ _ _ rfl
  have he : P.elem T = e := by simp [Program.elem, hT]
  rw [run_slice_lh w' T a xs.length c (by rw [he]; exact hT) kd kd' i j h0 hij (by omega), he, hs]
  simp [Result.andThen, sliced, Go.Proofs.YtkgdbobhppmaiaaDoor.part]

theorem Own.part {w : World} {B : Nat} {e : TypeId} {v : Value} {xs : List Value} (h : Own w B e v xs) (i j : Nat) (hi : i ≤ j) (hj : j ≤ xs.length) : Own w B e (part v i j) ((xs.take j).drop i) := by
  rcases h with ⟨rfl, rfl⟩ | ⟨g, o, cap, cur, rfl, hB, hg, hc, hm, hs, ht⟩
  · have : i = 0 := by simp at hj; omega
    subst this
    have : j = 0 := by simpa using hj
    subst this
    exact .inl ⟨by simp [Go.Proofs.YtkgdbobhppmaiaaDoor.part], by simp⟩
  · have hlen : ((xs.take j).drop i).length = j - i := by simp; omega
    by_cases hci : cap = i
    · have : i = j := by omega
      subst this
      refine .inr ⟨g, o, cap - i, cur, ?_, hB, hg, by rw [hlen]; omega, by omega, by omega, ?_⟩
      · simp only [Go.Proofs.YtkgdbobhppmaiaaDoor.part, hci, if_true]; rw [hlen]
      · rw [hlen, Nat.sub_self, List.take_zero]; symm; apply List.eq_nil_of_length_eq_zero; rw [hlen]; omega
    · refine .inr ⟨g, o + i, cap - i, cur, ?_, hB, hg, by rw [hlen]; omega, by omega, by omega, ?_⟩
      · simp only [Go.Proofs.YtkgdbobhppmaiaaDoor.part, hci, if_false, Option.map_some, add_lit]; rw [hlen]
      · apply List.ext_getElem?
        intro t
        rw [List.getElem?_take, hlen, List.getElem?_drop, List.getElem?_drop, List.getElem?_take]
        by_cases htl : t < j - i
        · rw [if_pos htl, if_pos (by omega)]
          have := congrArg (fun l : List Value => l[i + t]?) ht
          simp only [List.getElem?_take, List.getElem?_drop] at this
          rw [if_pos (by omega)] at this
          rw [← this]; congr 1; omega
        · rw [if_neg htl, if_neg (by omega)]

theorem upto_part (v : Value) (k : Nat) (hv : ∃ a n c, v = .slice a n c ∧ ∀ x, a = some x → x.spot = none) : upto v k = part v 0 k := by
  obtain ⟨a, n, c, rfl, hs⟩ := hv
  simp only [upto, part, Nat.sub_zero]
  congr 1
  cases a with
  | none => simp
  | some x => simp [Addr.add]

theorem Own.upto {w : World} {B : Nat} {e : TypeId} {v : Value} {xs : List Value} (h : Own w B e v xs) (k : Nat) (hk : k ≤ xs.length) : Own w B e (upto v k) (xs.take k) := by
  have hv : ∃ a n c, v = .slice a n c ∧ ∀ x, a = some x → x.spot = none := by
    rcases h with ⟨rfl, _⟩ | ⟨g, o, cap, cur, rfl, _⟩
    · exact ⟨none, 0, 0, rfl, by simp⟩
    · exact ⟨_, _, _, rfl, by rintro x e; cases e; rfl⟩
  rw [upto_part v k hv]
  have := h.part 0 k (Nat.zero_le _) hk
  simpa using this

theorem Own.onwards {w : World} {B : Nat} {e : TypeId} {v : Value} {xs : List Value} (h : Own w B e v xs) (k : Nat) (hk : k ≤ xs.length) : Own w B e (onwards v k) (xs.drop k) := by
  obtain ⟨a, c, ev, _⟩ := h.reads.form
  rw [onwards_part v xs.length k ⟨a, c, ev⟩]
  have := h.part k xs.length hk (Nat.le_refl _)
  rwa [List.take_of_length_le (Nat.le_refl _)] at this

theorem blk_part (v : Value) (i j : Nat) : blk (part v i j) = blk v := by
  cases v with
  | slice a n c =>
    cases a with
    | none => simp [part, blk]
    | some a =>
      simp only [part]
      split
      · rfl
      · simp only [Option.map_some, blk, Addr.add]; split <;> rfl
  | _ => rfl
theorem blk_upto (v : Value) (k : Nat) : blk (upto v k) = blk v := by
  cases v with
  | slice a n c => cases a <;> rfl
  | _ => rfl

end Go.Proofs.YtkgdbobhppmaiaaDoor
