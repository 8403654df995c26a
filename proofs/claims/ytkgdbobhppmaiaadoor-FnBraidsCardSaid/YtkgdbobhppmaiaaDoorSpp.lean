/- The parts of a text between blanks. Plain. -/
import Derived.Lib.SplitLaws
import Derived.Test.YtkgdbobhppmaiaaDoorCore
namespace Go.Proofs.YtkgdbobhppmaiaaDoor
open Go.Lib

/-- u ahead of the first part -/
def addTo (u : List UInt8) : List (List UInt8) → List (List UInt8)
  | [] => [u]
  | p :: ps => (u ++ p) :: ps
/-- the parts between blanks -/
def parts : List UInt8 → List (List UInt8)
  | [] => [[]]
  | c :: r => if c = 32 then [] :: parts r else addTo [c] (parts r)
theorem parts_ne (l : List UInt8) : parts l ≠ [] := by
  cases l with
  | nil => simp [parts]
  | cons c r =>
    unfold parts
    split
    · simp
    · cases parts r <;> simp [addTo]
theorem addTo_nil {L : List (List UInt8)} (h : L ≠ []) : addTo [] L = L := by
  cases L with
  | nil => exact absurd rfl h
  | cons p ps => rfl
theorem addTo_add (u v : List UInt8) (L : List (List UInt8)) : addTo u (addTo v L) = addTo (u ++ v) L := by
  cases L with
  | nil => simp [addTo]
  | cons p ps => simp [addTo]
theorem parts_blank (r : List UInt8) : parts (32 :: r) = [] :: parts r := if_pos rfl
theorem parts_other {c : UInt8} (r : List UInt8) (h : c ≠ 32) : parts (c :: r) = addTo [c] (parts r) := if_neg h
theorem splitK_zero (l : List UInt8) : splitK [32] 0 0 l = [l] := rfl
theorem splitK_miss {l : List UInt8} (k : Nat) (h : index l [32] = -1) : splitK [32] 0 k l = [l] := by
  cases k with
  | zero => rfl
  | succ k => unfold splitK; rw [if_pos (beq_iff_eq.2 h)]
theorem splitK_hit {l : List UInt8} {j : Nat} (k : Nat) (h : index l [32] = j) : splitK [32] 0 (k + 1) l = l.take j :: splitK [32] 0 k (l.drop (j + 1)) := by
  have hm : ¬ (index l [32] == -1) = true := fun e => by have := beq_iff_eq.1 e; omega
  have e : (index l [32]).toNat = j := by omega
  rw [splitK, if_neg hm, e]; rfl
theorem split_parts (l : List UInt8) : splitK [32] 0 (count l [32]) l = parts l := by
  induction l with
  | nil => rw [count_miss (by simp [index])]; rfl
  | cons b r ih =>
    by_cases h : b = 32
    · subst h
      have hix : index (32 :: r) [32] = ((0 : Nat) : Int) := by rw [index]; simp [List.isPrefixOf]
      rw [count_cons_eq, Nat.add_comm, splitK_hit _ hix, parts_blank, ← ih]; rfl
    · have hp : ([32] : List UInt8).isPrefixOf (b :: r) = false := by simp [List.isPrefixOf, Ne.symm h]
      have hix : index (b :: r) [32] = if index r [32] == -1 then -1 else index r [32] + 1 := by rw [index, hp]; simp
      rw [count_cons_ne b 32 r h, parts_other r h, ← ih]
      by_cases hm : index r [32] = -1
      · rw [splitK_miss _ (by rw [hix, if_pos (beq_iff_eq.2 hm)]), splitK_miss _ hm]; rfl
      · have hge := index_ge r [32]
        obtain ⟨j, hj⟩ : ∃ j : Nat, index r [32] = j := ⟨(index r [32]).toNat, by omega⟩
        have hix' : index (b :: r) [32] = ((j + 1 : Nat) : Int) := by rw [hix, if_neg (fun e => hm (beq_iff_eq.1 e)), hj]; omega
        have hc := count_hit (by simp) hj
        obtain ⟨k, hk⟩ : ∃ k, count r [32] = k + 1 := ⟨count r [32] - 1, by omega⟩
        rw [hk, splitK_hit k hix', splitK_hit k hj]
        simp [addTo]

/-- the reference's way: done parts, and the part under way from f to i -/
def Way (l : List UInt8) (d : List (List UInt8)) (f i : Nat) : Prop := f ≤ i ∧ i ≤ l.length ∧ parts l = d ++ addTo ((l.take i).drop f) (parts (l.drop i))
theorem Way.start (l : List UInt8) : Way l [] 0 0 := ⟨Nat.le_refl _, Nat.zero_le _, by simp [addTo_nil (parts_ne l)]⟩
theorem Way.blank {l : List UInt8} {d : List (List UInt8)} {f i : Nat} (h : Way l d f i) (hi : i < l.length) (hc : l[i] = 32) : Way l (d ++ [(l.take i).drop f]) (i + 1) (i + 1) := by
  obtain ⟨h1, h2, h3⟩ := h
  refine ⟨Nat.le_refl _, hi, ?_⟩
  rw [h3, List.drop_eq_getElem_cons hi, hc, parts_blank, List.append_assoc]
  congr 1
  have e : (l.take (i + 1)).drop (i + 1) = [] := by rw [List.drop_eq_nil_iff, List.length_take]; omega
  rw [e, addTo_nil (parts_ne _)]
  simp [addTo]
theorem Way.other {l : List UInt8} {d : List (List UInt8)} {f i : Nat} (h : Way l d f i) (hi : i < l.length) (hc : l[i] ≠ 32) : Way l d f (i + 1) := by
  obtain ⟨h1, h2, h3⟩ := h
  refine ⟨by omega, hi, ?_⟩
  rw [h3, List.drop_eq_getElem_cons hi, parts_other _ hc, addTo_add]
  congr 2
  rw [List.take_add_one, List.getElem?_eq_getElem hi, List.drop_append_of_le_length (by rw [List.length_take]; omega)]
  rfl
theorem Way.done {l : List UInt8} {d : List (List UInt8)} {f : Nat} (h : Way l d f l.length) : parts l = d ++ [l.drop f] := by
  obtain ⟨h1, h2, h3⟩ := h
  rw [h3, List.drop_length, List.take_length]
  simp [parts, addTo]
theorem Way.len {l : List UInt8} {d : List (List UInt8)} {f i : Nat} (h : Way l d f i) : d.length ≤ l.length := by
  have hp : ∀ l : List UInt8, (parts l).length ≤ l.length + 1 := by
    intro l
    induction l with
    | nil => simp [parts]
    | cons c r ih =>
      unfold parts
      split
      · simp; omega
      · have : (addTo [c] (parts r)).length = (parts r).length := by
          have := parts_ne r
          cases hr : parts r with
          | nil => exact absurd hr this
          | cons p ps => rfl
        simp; omega
  have h1 := hp l
  have h2 := parts_ne (l.drop i)
  rw [h.2.2, List.length_append] at h1
  have h3 : 1 ≤ (addTo ((l.take i).drop f) (parts (l.drop i))).length := by
    cases parts (l.drop i) <;> simp [addTo]
  omega

/-- the words: the parts that are not empty -/
def wordsOf (l : List UInt8) : List (List UInt8) := (parts l).filter fun p => !p.isEmpty

end Go.Proofs.YtkgdbobhppmaiaaDoor
