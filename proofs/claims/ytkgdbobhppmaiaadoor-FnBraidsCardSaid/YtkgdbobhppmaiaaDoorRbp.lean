/- Texts of braids are read back: plain. -/
import Derived.Test.YtkgdbobhppmaiaaDoorSpl
import Derived.Test.YtkgdbobhppmaiaaDoorBtx
import Derived.Test.YtkgdbobhppmaiaaDoorDig
namespace Go.Proofs.YtkgdbobhppmaiaaDoor
open Go.Lib

theorem itoa_chars (n : Int) : ∀ c ∈ itoa n, c ≠ 32 ∧ c ≠ 58 := by
  intro c hc
  have h : isDg c = true ∨ c.toNat = 45 := by
    unfold Lib.itoa at hc
    split at hc
    · rcases List.mem_cons.1 hc with rfl | hc
      · right; rfl
      · left; exact dg_all _ c hc
    · left; exact dg_all _ c hc
  constructor
  · rintro rfl
    rcases h with h | h
    · exact absurd h (by decide)
    · exact absurd h (by decide)
  · rintro rfl
    rcases h with h | h
    · exact absurd h (by decide)
    · exact absurd h (by decide)
theorem itoa_ne_nil (n : Int) : itoa n ≠ [] := by
  unfold Lib.itoa
  split
  · simp
  · intro e
    have := dg_pos n.toNat
    rw [e] at this; simp at this
theorem parts_plain {u : List UInt8} (h : ∀ c ∈ u, c ≠ 32) : parts u = [u] := by
  induction u with
  | nil => rfl
  | cons c u ih => rw [parts_other u (h c (by simp)), ih (fun x hx => h x (by simp [hx]))]; rfl
theorem parts_cut {u : List UInt8} (r : List UInt8) (h : ∀ c ∈ u, c ≠ 32) : parts (u ++ 32 :: r) = u :: parts r := by
  induction u with
  | nil => exact parts_blank r
  | cons c u ih => rw [List.cons_append, parts_other _ (h c (by simp)), ih (fun x hx => h x (by simp [hx]))]; rfl

/-- the letters of a text of a braid -/
def btR : List Int → List UInt8
  | [] => []
  | k :: l => 32 :: (itoa k ++ btR l)
theorem btR_snoc (l : List Int) (k : Int) : btR (l ++ [k]) = btR l ++ ([32] ++ itoa k) := by
  induction l with
  | nil => simp [btR]
  | cons x l ih => simp [btR, ih]
theorem btTo_take (n : Int) (l : List Int) {k : Nat} (h : k ≤ l.length) : btTo n l k = itoa n ++ 58 :: btR (l.take k) := by
  induction k with
  | zero => rfl
  | succ k ih =>
    rw [btTo, ih (by omega), List.take_add_one, nth_of (by omega)]
    show _ = itoa n ++ 58 :: btR (l.take k ++ [nth l k])
    rw [btR_snoc]; simp
theorem btTo_all (n : Int) (l : List Int) : btTo n l l.length = itoa n ++ 58 :: btR l := by
  rw [btTo_take n l (Nat.le_refl _), List.take_of_length_le (Nat.le_refl _)]
theorem parts_btR (l : List Int) {u : List UInt8} (h : ∀ c ∈ u, c ≠ 32) : parts (u ++ btR l) = u :: l.map itoa := by
  induction l generalizing u with
  | nil => rw [btR, List.append_nil, parts_plain h]; rfl
  | cons k l ih => rw [btR, parts_cut _ h, ih (fun c hc => (itoa_chars k c hc).1)]; rfl
theorem head_chars (n : Int) : ∀ c ∈ itoa n ++ [58], c ≠ 32 := by
  intro c hc
  rcases List.mem_append.1 hc with hc | hc
  · exact (itoa_chars n c hc).1
  · rw [List.mem_singleton] at hc; subst hc; decide
theorem parts_text (n : Int) (l : List Int) : parts (btTo n l l.length) = (itoa n ++ [58]) :: l.map itoa := by
  rw [btTo_all, ← parts_btR l (head_chars n)]
  simp
theorem words_btR (l : List Int) : wordsOf (btR l) = l.map itoa := by
  unfold wordsOf
  have := parts_btR l (u := []) (by simp)
  rw [List.nil_append] at this
  rw [this]
  show List.filter _ (l.map itoa) = _
  rw [List.filter_eq_self]
  intro p hp
  rw [List.mem_map] at hp
  obtain ⟨k, -, rfl⟩ := hp
  have := itoa_ne_nil k
  cases h : itoa k with
  | nil => exact absurd h this
  | cons c r => rfl
theorem index_colon {u : List UInt8} (r : List UInt8) (h : ∀ c ∈ u, c ≠ 58) : index (u ++ 58 :: r) [58] = u.length := by
  induction u with
  | nil => rw [List.nil_append, index]; simp [List.isPrefixOf]
  | cons c u ih =>
    have hc := h c (by simp)
    have hp : ([58] : List UInt8).isPrefixOf (c :: (u ++ 58 :: r)) = false := by simp [List.isPrefixOf, Ne.symm hc]
    rw [List.cons_append, index, hp, ih (fun x hx => h x (by simp [hx]))]
    have h1 : ((u.length : Int) == -1) = false := by rw [beq_eq_false_iff_ne]; omega
    rw [h1]
    simp
theorem cut_text (n : Int) (l : List Int) : cut (btTo n l l.length) [58] = (itoa n, btR l, true) := by
  rw [btTo_all]
  unfold cut
  rw [index_colon _ (fun c hc => (itoa_chars n c hc).2)]
  rw [if_pos (by omega)]
  simp

/-- the valid braid with the text s -/
def rbO (s : List UInt8) : Option (Int × List Int) :=
  if okB (rdN ((parts s).headD []).dropLast) (((parts s).drop 1).map rdN) = true ∧ btTo (rdN ((parts s).headD []).dropLast) (((parts s).drop 1).map rdN) (((parts s).drop 1).map rdN).length = s
  then some (rdN ((parts s).headD []).dropLast, ((parts s).drop 1).map rdN) else none
theorem rd_back {k : Int} (h0 : -12 ≤ k) (h1 : k ≤ 12) : rdN (itoa k) = k ∧ rdB (itoa k) = true := (RdOk.itoa (by omega) (by omega)).eq
theorem ok_bd {n : Int} {l : List Int} (h : okB n l = true) : ∀ k ∈ l, -12 ≤ k ∧ k ≤ 12 := by
  obtain ⟨h0, h1, -, h3⟩ := okB_of h
  intro k hk
  obtain ⟨i, hi, rfl⟩ := List.getElem_of_mem hk
  have := h3 i hi
  have e : nth l i = l[i] := by simp [nth, hi]
  rw [e] at this; omega
theorem rb_some {s : List UInt8} {n : Int} {l : List Int} (h : okB n l = true) (ht : btTo n l l.length = s) : rbO s = some (n, l) := by
  have hp := parts_text n l
  rw [ht] at hp
  obtain ⟨h0, h1, -, -⟩ := okB_of h
  have e1 : rdN ((parts s).headD []).dropLast = n := by
    rw [hp]
    show rdN ((itoa n ++ [58]).dropLast) = n
    rw [List.dropLast_concat]
    exact (rd_back (by omega) (by omega)).1
  have e2 : ((parts s).drop 1).map rdN = l := by
    rw [hp]
    show (l.map itoa).map rdN = l
    rw [List.map_map]
    have hb := ok_bd h
    clear h ht hp h0 h1 e1
    induction l with
    | nil => rfl
    | cons k l ih =>
      rw [List.map_cons, ih (fun x hx => hb x (by simp [hx]))]
      have := hb k (by simp)
      show rdN (itoa k) :: l = _
      rw [(rd_back this.1 this.2).1]
  unfold rbO
  rw [e1, e2, if_pos ⟨h, ht⟩]
theorem rb_none {s : List UInt8} (h : ∀ n l, okB n l = true → btTo n l l.length ≠ s) : rbO s = none := if_neg fun k => h _ _ k.1 k.2
theorem rb_of {s : List UInt8} {n : Int} {l : List Int} (h : rbO s = some (n, l)) : okB n l = true ∧ btTo n l l.length = s := by
  unfold rbO at h
  split at h
  · rename_i k
    injection h with h
    injection h with h1 h2
    rw [← h1, ← h2]; exact k
  · cases h
def rbN (s : List UInt8) : Int := match rbO s with | some (n, _) => n | none => 0
def rbL (s : List UInt8) : List Int := match rbO s with | some (_, l) => l | none => []
def rbB (s : List UInt8) : Bool := match rbO s with | some _ => true | none => false
theorem rb_yes {s : List UInt8} {n : Int} {l : List Int} (h : okB n l = true) (ht : btTo n l l.length = s) : rbN s = n ∧ rbL s = l ∧ rbB s = true := by
  unfold rbN rbL rbB; rw [rb_some h ht]; exact ⟨rfl, rfl, rfl⟩
theorem rb_no {s : List UInt8} (h : ∀ n l, okB n l = true → btTo n l l.length ≠ s) : rbN s = 0 ∧ rbL s = [] ∧ rbB s = false := by
  unfold rbN rbL rbB; rw [rb_none h]; exact ⟨rfl, rfl, rfl⟩
/-- what the numbers of words read as -/
theorem words_all (l : List Int) (h : ∀ k ∈ l, -12 ≤ k ∧ k ≤ 12) : (l.map itoa).map rdN = l ∧ ∀ p ∈ l.map itoa, rdB p = true := by
  induction l with
  | nil => exact ⟨rfl, by simp⟩
  | cons k l ih =>
    obtain ⟨i1, i2⟩ := ih (fun x hx => h x (by simp [hx]))
    have := h k (by simp)
    have hb := rd_back this.1 this.2
    refine ⟨?_, ?_⟩
    · rw [List.map_cons, List.map_cons, i1, hb.1]
    · intro p hp
      rw [List.map_cons] at hp
      rcases List.mem_cons.1 hp with rfl | hp
      · exact hb.2
      · exact i2 p hp

end Go.Proofs.YtkgdbobhppmaiaaDoor
