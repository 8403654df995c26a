/- Slices as lists: what a slice value reads as, which of them the call owns, and how both are kept. Plain laws of memory; no program is looked at. -/
import Derived.Test.YtkgdbobhppmaiaaDoorRows
import Derived.WalkKit
import Derived.WalkSpells
import Derived.WalkLawsBesides
import Derived.WalkSmall
import Derived.Deep.QuietTactic
import Derived.BigQuiet
namespace Go.Proofs.YtkgdbobhppmaiaaDoor
open Go.RowKit

theorem hid {p : Prop} (h : p) : Hid p := h

/-- the place of element i of a slice whose elements take one cell -/
def adr : Value → Nat → Addr
  | .slice (some a) _ _, i => a.add i
  | _, _ => ⟨0, 0, none⟩

/-- the block of a slice -/
def blk : Value → Option Nat
  | .slice (some a) _ _ => some a.block
  | _ => none

/-- the slice value v reads as the cells xs -/
structure Reads (w : World) (v : Value) (xs : List Value) : Prop where
  form : ∃ a c, v = .slice a xs.length c ∧ (xs ≠ [] → a ≠ none)
  small : xs.length ≤ 9223372036854775807
  cap : ∀ a n c, v = .slice a n c → n ≤ c
  cell : ∀ i x, xs[i]? = some x → w.cell? (adr v i) = some x

/-- v is a slice of the call's own, in a block from B on (or nil), and reads as xs -/
def Own (w : World) (B : Nat) (e : TypeId) (v : Value) (xs : List Value) : Prop :=
  (v = .slice none 0 0 ∧ xs = []) ∨
  ∃ g o cap cur, v = .slice (some ⟨g, o, none⟩) xs.length cap ∧ B ≤ g ∧ w.heap[g]? = some (.cells cur e (0, 0)) ∧ xs.length ≤ cap ∧ cap ≤ 9223372036854775807 ∧
    o + cap ≤ cur.size ∧ (cur.toList.drop o).take xs.length = xs

theorem add_lit (g o i : Nat) : (⟨g, o, none⟩ : Addr).add i = ⟨g, o + i, none⟩ := by unfold Addr.add; split <;> simp_all

theorem cellOfBlock {w : World} {g : Nat} {cur : Array Value} {e : TypeId} {fr : Nat × Nat} (h : w.heap[g]? = some (.cells cur e fr)) (j : Nat) : w.cell? ⟨g, j, none⟩ = cur[j]? := by
  simp [World.cell?, h]

theorem Own.reads {w : World} {B : Nat} {e : TypeId} {v : Value} {xs : List Value} (h : Own w B e v xs) : Reads w v xs := by
  rcases h with ⟨rfl, rfl⟩ | ⟨g, o, cap, cur, rfl, hB, hg, hc, hm, hs, ht⟩
  · exact ⟨⟨none, 0, rfl, by simp⟩, by simp, by rintro a n c e; cases e; exact Nat.le_refl _, by simp⟩
  · refine ⟨⟨_, _, rfl, by simp⟩, by omega, by rintro a n c e; cases e; exact hc, ?_⟩
    intro i x hx
    have hi : i < xs.length := by
      rcases Nat.lt_or_ge i xs.length with h | h
      · exact h
      · rw [List.getElem?_eq_none h] at hx; cases hx
    show w.cell? ((⟨g, o, none⟩ : Addr).add i) = some x
    rw [add_lit, cellOfBlock hg]
    rw [← ht, List.getElem?_take, if_pos hi, List.getElem?_drop] at hx
    simpa using hx

theorem Reads.spot {w : World} {v : Value} {xs : List Value} (_h : Reads w v xs) (i : Nat) (x : Value) (hx : w.cell? (adr v i) = some x) : (adr v i).block < w.heap.size :=
  World.block_lt_of_cell? w _ hx

theorem adr_block (v : Value) (i : Nat) : blk v = some (adr v i).block ∨ (blk v = none ∧ adr v i = ⟨0, 0, none⟩) := by
  cases v with
  | slice a n c =>
    cases a with
    | none => exact .inr ⟨rfl, rfl⟩
    | some a => left; simp only [blk, adr, Addr.add]; split <;> rfl
  | _ => exact .inr ⟨rfl, rfl⟩

/-- what reads so far keeps its reading where its block is as it was -/
theorem Reads.keep {w w' : World} {v : Value} {xs : List Value} (h : Reads w v xs) (hk : ∀ k, blk v = some k → k < w.heap.size → w'.heap[k]? = w.heap[k]?) : Reads w' v xs := by
  refine ⟨h.form, h.small, h.cap, ?_⟩
  intro i x hx
  have hc := h.cell i x hx
  have hlt := h.spot i x hc
  have hb : blk v = some (adr v i).block := by
    rcases adr_block v i with hb | ⟨hb, _⟩
    · exact hb
    · exfalso
      obtain ⟨a, c, rfl, ha⟩ := h.form
      cases a with
      | none => exact ha (by intro e; rw [e] at hx; simp at hx) rfl
      | some a => simp [blk] at hb
  rw [World.cell?_of_block (hk _ hb hlt)]
  exact hc

theorem Reads.below {w w' : World} {v : Value} {xs : List Value} (h : Reads w v xs) (hb : Below w.heap.size w w') : Reads w' v xs :=
  h.keep fun k _ hlt => hb.block k hlt

theorem Own.keep {w w' : World} {B : Nat} {e : TypeId} {v : Value} {xs : List Value} (h : Own w B e v xs) (hk : ∀ k, blk v = some k → k < w.heap.size → w'.heap[k]? = w.heap[k]?) : Own w' B e v xs := by
  rcases h with h | ⟨g, o, cap, cur, rfl, hB, hg, r⟩
  · exact .inl h
  · have hlt : g < w.heap.size := (Array.getElem?_eq_some_iff.1 hg).1
    exact .inr ⟨g, o, cap, cur, rfl, hB, (hk g rfl hlt).trans hg, r⟩

theorem Own.below {w w' : World} {B : Nat} {e : TypeId} {v : Value} {xs : List Value} (h : Own w B e v xs) (hb : Below w.heap.size w w') : Own w' B e v xs :=
  h.keep fun k _ hlt => hb.block k hlt

theorem Own.mono {w : World} {B B' : Nat} {e : TypeId} {v : Value} {xs : List Value} (h : Own w B e v xs) (hb : B' ≤ B) : Own w B' e v xs := by
  rcases h with h | ⟨g, o, cap, cur, rfl, hB, r⟩
  · exact .inl h
  · exact .inr ⟨g, o, cap, cur, rfl, by omega, r⟩

theorem Own.blk_lt {w : World} {B : Nat} {e : TypeId} {v : Value} {xs : List Value} (h : Own w B e v xs) {k : Nat} (hk : blk v = some k) : B ≤ k ∧ k < w.heap.size := by
  rcases h with ⟨rfl, _⟩ | ⟨g, o, cap, cur, rfl, hB, hg, _⟩
  · simp [blk] at hk
  · simp [blk] at hk; subst hk
    exact ⟨hB, (Array.getElem?_eq_some_iff.1 hg).1⟩

theorem Own.frozen {w : World} {B : Nat} {e : TypeId} {v : Value} {xs : List Value} (h : Own w B e v xs) {i : Nat} (hi : i < xs.length) : w.frozen? (adr v i) = false := by
  rcases h with ⟨rfl, rfl⟩ | ⟨g, o, cap, cur, rfl, hB, hg, _⟩
  · simp at hi
  · show w.frozen? ((⟨g, o, none⟩ : Addr).add i) = false
    rw [add_lit]; simp [World.frozen?, hg]

theorem Own.adr_blk {w : World} {B : Nat} {e : TypeId} {v : Value} {xs : List Value} (h : Own w B e v xs) {i : Nat} (hi : i < xs.length) : blk v = some (adr v i).block ∧ B ≤ (adr v i).block ∧ (adr v i).block < w.heap.size := by
  rcases h with ⟨rfl, rfl⟩ | ⟨g, o, cap, cur, rfl, hB, hg, _⟩
  · simp at hi
  · have : adr (.slice (some ⟨g, o, none⟩) xs.length cap) i = ⟨g, o + i, none⟩ := add_lit g o i
    rw [this]; exact ⟨rfl, hB, (Array.getElem?_eq_some_iff.1 hg).1⟩

theorem heap_setCell_same {w : World} {g j : Nat} {cur : Array Value} {e : TypeId} {fr : Nat × Nat} (h : w.heap[g]? = some (.cells cur e fr)) (u : Value) :
    (w.setCell ⟨g, j, none⟩ u).heap[g]? = some (.cells (cur.setIfInBounds j u) e fr) := by
  simp only [World.setCell, Array.getElem?_modify, ↓reduceIte, h, Option.map_some]
  rfl

/-- a store at element i -/
theorem Own.set {w : World} {B : Nat} {e : TypeId} {v : Value} {xs : List Value} (h : Own w B e v xs) {i : Nat} (hi : i < xs.length) (u : Value) : Own (w.setCell (adr v i) u) B e v (xs.set i u) := by
  rcases h with ⟨rfl, rfl⟩ | ⟨g, o, cap, cur, rfl, hB, hg, hc, hm, hs, ht⟩
  · simp at hi
  · have : adr (.slice (some ⟨g, o, none⟩) xs.length cap) i = ⟨g, o + i, none⟩ := add_lit g o i
    rw [this]
    refine .inr ⟨g, o, cap, cur.setIfInBounds (o + i) u, by simp, hB, heap_setCell_same hg u, by simpa using hc, hm, by simpa using hs, ?_⟩
    apply List.ext_getElem?
    intro j
    rw [List.getElem?_take, List.length_set]
    by_cases hj : j < xs.length
    · rw [if_pos hj, List.getElem?_drop, Array.getElem?_toList, Array.getElem?_setIfInBounds, List.getElem?_set]
      have hx : xs[j]? = cur[o + j]? := by
        have := congrArg (fun l : List Value => l[j]?) ht
        simp only [List.getElem?_take, if_pos hj, List.getElem?_drop] at this
        rw [← this]; simp
      by_cases hij : i = j
      · subst hij; simp [hi]; omega
      · simp [hij, hx]
    · rw [if_neg hj, List.getElem?_eq_none (by simp; omega)]

theorem Own.other {w : World} {B : Nat} {e : TypeId} {v : Value} {xs : List Value} (h : Own w B e v xs) {a : Addr} (ha : blk v ≠ some a.block) (u : Value) : Own (w.setCell a u) B e v xs :=
  h.keep fun k hk _ => Below.heap_setCell _ _ _ _ (fun e => ha (by rw [hk, e]))

theorem Reads.other {w : World} {v : Value} {xs : List Value} (h : Reads w v xs) {a : Addr} (ha : blk v ≠ some a.block) (u : Value) : Reads (w.setCell a u) v xs :=
  h.keep fun k hk _ => Below.heap_setCell _ _ _ _ (fun e => ha (by rw [hk, e]))

/-- the run of 'len' -/
theorem Reads.len {w : World} {v : Value} {xs : List Value} (h : Reads w v xs) {P : Program} (T t : TypeId) (hT : ∃ e, P.underlying T = some (.slice e)) (w' : World) :
    (Builtin.len_ #[T] t #[v]).run P w' = .ok (.int .i64 (xs.length : Nat)) w' := by
  obtain ⟨a, c, rfl, _⟩ := h.form
  obtain ⟨e, hT⟩ := hT
  have h63 := h.small
  simp [Builtin.len_, run_underlying hT, goInt]

/-- the run of an element's address -/
theorem Reads.idx {w : World} {v : Value} {xs : List Value} (h : Reads w v xs) {P : Program} (T : TypeId) {e : TypeId} (hT : P.underlying T = some (.slice e)) (hs : (sizeOf e).run P = fun w => .ok 1 w)
    (k : IntKind) (i : Int) (h0 : 0 ≤ i) (hi : i < (xs.length : Nat)) (w' : World) :
    (Instr.indexAt T v (.int k i)).run P w' = .ok (.pointer (some (adr v i.toNat))) w' := by
  obtain ⟨a, c, rfl, ha⟩ := h.form
  have hne : xs ≠ [] := by intro e; rw [e] at hi; simp at hi; omega
  cases a with
  | none => exact absurd rfl (ha hne)
  | some a => simp [Instr.indexAt, run_underlying hT, asIntOf, h0, hi, hs, adr]

/-- a slice of int64 -/
def ints (l : List Int) : List Value := l.map (Value.int .i64)
def nth (l : List Int) (i : Nat) : Int := l[i]?.getD 0
@[simp] theorem length_ints (l : List Int) : (ints l).length = l.length := by simp [ints]
theorem ints_at {l : List Int} {i : Nat} (h : i < l.length) : (ints l)[i]? = some (.int .i64 (nth l i)) := by
  simp [ints, nth, h]
theorem ints_set (l : List Int) (i : Nat) (x : Int) : (ints l).set i (.int .i64 x) = ints (l.set i x) := by
  simp [ints, List.map_set]

theorem Reads.int {w : World} {v : Value} {l : List Int} (h : Reads w v (ints l)) {i : Nat} (hi : i < l.length) : w.cell? (adr v i) = some (.int .i64 (nth l i)) :=
  h.cell i _ (ints_at hi)

/-- 'make([]T, n)': the value and the world behind it, each under one name -/
def madeV (w : World) (n : Nat) : Value := .slice (some ⟨w.heap.size, 0, none⟩) n n
def madeW (w : World) (e : TypeId) (z : Value) (n : Nat) : World := w.alloc (.cells (madeCells #[z] n) e)

theorem own_made (w : World) (e : TypeId) (n : Nat) (z : Value) (hn : n ≤ 9223372036854775807) {B : Nat} (hB : B ≤ w.heap.size) :
    Own (madeW w e z n) B e (madeV w n) (List.replicate n z) := by
  refine .inr ⟨w.heap.size, 0, n, madeCells #[z] n, by simp [madeV], hB, heap_alloc_new w _, by simp, hn, by simp [madeCells], ?_⟩
  rw [toList_madeCells_one]; simp

theorem below_made (w : World) (e : TypeId) (z : Value) (n : Nat) : Below w.heap.size w (madeW w e z n) := (Below.refl _ _).alloc (Nat.le_refl _) _

theorem make_run {P : Program} {T e : TypeId} {z : Value} {b : Nat} (hT : P.underlying T = some (.slice e)) (hi : (P.info? e).map (fun i => (i.zero, i.size, i.bytes)) = some (some z, 1, b)) (hz : z.cells = #[z])
    (n : Int) (h0 : 0 ≤ n) (hb : (b : Int) * n ≤ 281474976710656) (hn : n ≤ 1099511627776) (w : World) :
    (Instr.makeSlice T (.int .i64 n) (.int .i64 n)).run P w = .ok (madeV w n.toNat) (madeW w e z n.toNat) := by
  obtain ⟨i, hi, hz', h1, h8⟩ := info_parts hi
  have hr := run_make (P := P) w T e i z hT hi hz' .i64 .i64 n n h0 (by omega) (by rw [h8]; omega) (by omega)
  rw [hr, h1, hz]; simp [madeV, madeW]

theorem nth_of {l : List Int} {i : Nat} (h : i < l.length) : l[i]? = some (nth l i) := by simp [nth, h]

theorem copy_step (l : List Int) (k : Nat) (hk : k < l.length) : (l.take k ++ List.replicate (l.length - k) 0).set k (nth l k) = l.take (k + 1) ++ List.replicate (l.length - (k + 1)) 0 := by
  apply List.ext_getElem?
  intro j
  have hlen : (l.take k).length = k := by simp; omega
  rw [List.getElem?_set]
  by_cases hj : k = j
  · subst hj
    rw [if_pos rfl, if_pos (by simp; omega), List.getElem?_append_left (by simp; omega), List.getElem?_take, if_pos (by omega), nth_of hk]
  · rw [if_neg hj]
    by_cases hlt : j < k
    · rw [List.getElem?_append_left (by omega), List.getElem?_append_left (by simp; omega), List.getElem?_take, List.getElem?_take, if_pos hlt, if_pos (by omega)]
    · rw [List.getElem?_append_right (by omega), List.getElem?_append_right (by simp; omega), hlen]
      have h2 : (l.take (k + 1)).length = k + 1 := by simp; omega
      rw [h2, List.getElem?_replicate, List.getElem?_replicate]
      by_cases hjl : j < l.length
      · rw [if_pos (by omega), if_pos (by omega)]
      · rw [if_neg (by omega), if_neg (by omega)]

theorem ext_nth {l m : List Int} (hl : l.length = m.length) (h : ∀ j, j < l.length → nth l j = nth m j) : l = m := by
  apply List.ext_getElem?
  intro j
  by_cases hj : j < l.length
  · rw [nth_of hj, nth_of (by omega), h j hj]
  · rw [List.getElem?_eq_none (by omega), List.getElem?_eq_none (by omega)]

theorem ne_nth {l m : List Int} {k : Nat} (h : (nth l k != nth m k) = true) : l ≠ m := by
  rintro rfl; simp at h

theorem eq_nth {l m : List Int} {k : Nat} (h : (nth l k != nth m k) = false) : nth l k = nth m k := by simpa using h

theorem forall_snoc {p : Nat → Prop} {k : Nat} (h : ∀ j, j < k → p j) (hk : p k) : ∀ j, j < k + 1 → p j := by
  intro j hj
  by_cases e : j = k
  · subst e; exact hk
  · exact h j (by omega)

/-- the values k, k + 1, .. -/
def marks (n : Nat) (k : Int) : List Int := (List.range n).map fun i : Nat => k + (i : Int)
@[simp] theorem length_marks (n : Nat) (k : Int) : (marks n k).length = n := by simp [marks]
theorem nth_marks {n : Nat} {k : Int} {i : Nat} (h : i < n) : nth (marks n k) i = k + i := by simp [nth, marks, h]

theorem mark_step (l : List Int) (q : Int) (k : Nat) (hk : k < l.length) : (marks k q ++ l.drop k).set k (q + k) = marks (k + 1) q ++ l.drop (k + 1) := by
  apply List.ext_getElem?
  intro j
  rw [List.getElem?_set]
  by_cases hj : k = j
  · subst hj
    rw [if_pos rfl, if_pos (by simp; omega), List.getElem?_append_left (by simp), nth_of (by simp), nth_marks (by omega)]
  · rw [if_neg hj]
    by_cases hlt : j < k
    · rw [List.getElem?_append_left (by simpa using hlt), List.getElem?_append_left (by simp; omega), nth_of (by simpa using hlt), nth_of (by simp; omega), nth_marks hlt, nth_marks (by omega)]
    · rw [List.getElem?_append_right (by simp; omega), List.getElem?_append_right (by simp; omega), List.getElem?_drop, List.getElem?_drop]
      congr 1; simp; omega

theorem grown_refl (w : World) (row : Option Nat) : w.grownBy w row := ⟨rfl, rfl, rfl, Nat.le_refl _, fun _ _ _ => rfl⟩
theorem grown_set {w w' : World} {row : Option Nat} (h : w.grownBy w' row) {a : Addr} (ha : row = some a.block) (u : Value) : w.grownBy (w'.setCell a u) row :=
  ⟨h.os, h.tape, h.output, by simpa [World.setCell] using h.size, fun k hk hne => (Below.heap_setCell _ _ _ _ (fun e => hne (by rw [ha, e]))).trans (h.block k hk hne)⟩
theorem grown_drewN {w w' : World} {row : Option Nat} (h : w.grownBy w' row) (n : Nat) : w.grownBy (w'.drewN n) row := ⟨h.os, h.tape, h.output, h.size, h.block⟩
theorem grown_trans {a b c : World} {row : Option Nat} (h : a.grownBy b row) (k : b.grownBy c row) : a.grownBy c row :=
  ⟨k.os.trans h.os, k.tape.trans h.tape, k.output.trans h.output, Nat.le_trans h.size k.size, fun i hi hn => (k.block i (Nat.lt_of_lt_of_le hi h.size) hn).trans (h.block i hi hn)⟩
theorem grown_of_below {w w' : World} (h : Below w.heap.size w w') (row : Option Nat) : w.grownBy w' row := ⟨h.os, h.tape, h.output, h.size, fun k hk _ => h.block k hk⟩
theorem below_grown {B : Nat} {a w w' : World} {row : Option Nat} (h : Below B a w) (hg : w.grownBy w' row) (hB : B ≤ w.heap.size) (hr : ∀ k, row = some k → B ≤ k) : Below B a w' := h.grown hg hB hr

theorem Reads.grown {w w' : World} {v : Value} {xs : List Value} {row : Option Nat} (h : Reads w v xs) (hg : w.grownBy w' row) (hne : ∀ k, blk v = some k → row ≠ some k) : Reads w' v xs :=
  h.keep fun k hk hlt => hg.block k hlt (fun e => hne k hk e.symm)
theorem Own.grown {w w' : World} {B : Nat} {e : TypeId} {v : Value} {xs : List Value} {row : Option Nat} (h : Own w B e v xs) (hg : w.grownBy w' row) (hne : ∀ k, blk v = some k → row ≠ some k) : Own w' B e v xs :=
  h.keep fun k hk hlt => hg.block k hlt (fun e => hne k hk e.symm)

/-- a local array, seen as a slice over its block -/
def arrV (g n : Nat) : Value := .slice (some ⟨g, 0, none⟩) n n
theorem adr_arr (g n i : Nat) : adr (arrV g n) i = ⟨g, i, none⟩ := by
  show (⟨g, 0, none⟩ : Addr).add i = _
  rw [add_lit, Nat.zero_add]
theorem own_arr (w : World) (e : TypeId) (cs : Array Value) (n : Nat) (hn : cs.size = n) (hm : n ≤ 9223372036854775807) {B : Nat} (hB : B ≤ w.heap.size) : Own (w.alloc (.cells cs e)) B e (arrV w.heap.size n) cs.toList :=
  .inr ⟨w.heap.size, 0, n, cs, by simp [arrV, hn], hB, heap_alloc_new w _, by simp [hn], hm, by simp [hn], by rw [List.drop_zero, List.take_of_length_le (Nat.le_refl _)]⟩

/-- a quiet callee inside a region that draws -/
theorem quietS {P : Program} {f : FuncId} {args : Array Value} {w : World} {n : Nat} {v : Value}
    (h : Calls P f args (w.drewN n) fun e w' => e = .returned v ∧ w.drewN n = w') : Calls P f args (w.drewN n) fun e w'' => e = .returned v ∧ ∃ m, w'' = w.drewN m :=
  h.mono fun _ _ ⟨he, hm⟩ => ⟨he, n, hm.symm⟩
theorem Reads.drewN {w : World} {v : Value} {xs : List Value} (h : Reads w v xs) (n : Nat) : Reads (w.drewN n) v xs := h.keep fun _ _ _ => rfl
theorem Own.drewN {w : World} {B : Nat} {e : TypeId} {v : Value} {xs : List Value} (h : Own w B e v xs) (n : Nat) : Own (w.drewN n) B e v xs := h.keep fun _ _ _ => rfl

/-- v[:k] -/
def upto : Value → Nat → Value
  | .slice a _ c, k => .slice a k c
  | v, _ => v
/-- v[k:] -/
def onwards : Value → Nat → Value
  | .slice a n c, k => .slice (if c = k then a else a.map (·.add k)) (n - k) (c - k)
  | v, _ => v

theorem Reads.upto {w : World} {v : Value} {xs : List Value} (h : Reads w v xs) (k : Nat) (hk : k ≤ xs.length) : Reads w (upto v k) (xs.take k) := by
  obtain ⟨⟨a, c, rfl, ha⟩, hs, hcap, hc⟩ := h
  have hcc := hcap _ _ _ rfl
  refine ⟨⟨a, c, by simp [Go.Proofs.YtkgdbobhppmaiaaDoor.upto, Nat.min_eq_left hk], ?_⟩, by simp; omega, by rintro a' n' c' e; simp only [Go.Proofs.YtkgdbobhppmaiaaDoor.upto, Value.slice.injEq] at e; omega, ?_⟩
  · intro hne; exact ha (by intro e; rw [e] at hne; simp at hne)
  · intro i x hx
    rw [List.getElem?_take] at hx
    split at hx
    · have := hc i x hx
      cases a <;> exact this
    · cases hx

theorem Reads.upto_run {w : World} {v : Value} {xs : List Value} (h : Reads w v xs) {P : Program} {T e : TypeId} (hT : P.underlying T = some (.slice e)) (hs : (sizeOf e).run P = fun w => .ok 1 w)
    (kd : IntKind) (k : Int) (h0 : 0 ≤ k) (hk : k ≤ (xs.length : Nat)) (w' : World) :
    (Instr.slice T v none (some (.int kd k)) none).run P w' = .ok (Go.Proofs.YtkgdbobhppmaiaaDoor.upto v k.toNat) w' := by
  obtain ⟨a, c, rfl, ha⟩ := h.form
  have hc := h.cap _ _ _ rfl
  have he : P.elem T = e := by simp [Program.elem, hT]
  rw [run_slice_h w' T a xs.length c (by rw [he]; exact hT) kd k h0 (by omega), he, hs]
  have h0 : Option.map (fun x : Addr => x.add 0) a = a := by cases a <;> simp [Addr.add]
  simp [Result.andThen, sliced, Go.Proofs.YtkgdbobhppmaiaaDoor.upto, h0]

end Go.Proofs.YtkgdbobhppmaiaaDoor
