/- Blocks of memory that hold known cells: local structs and arrays. Plain laws of memory. -/
import Derived.Test.YtkgdbobhppmaiaaDoorApq
namespace Go.Proofs.YtkgdbobhppmaiaaDoor
open Go.RowKit

/-- block g holds the cells cs -/
def Bx (w : World) (g : Nat) (cs : List Value) : Prop := ∃ e, w.heap[g]? = some (.cells cs.toArray e (0, 0))
theorem Bx.cell {w : World} {g : Nat} {cs : List Value} (h : Bx w g cs) (i : Nat) {x : Value} (hx : cs[i]? = some x) : w.cell? ⟨g, i, none⟩ = some x := by
  obtain ⟨e, h⟩ := h
  rw [cellOfBlock h]; simpa using hx
theorem Bx.frozen {w : World} {g : Nat} {cs : List Value} (h : Bx w g cs) (i : Nat) : w.frozen? ⟨g, i, none⟩ = false := by
  obtain ⟨e, h⟩ := h
  simp [World.frozen?, h]
theorem Bx.lt {w : World} {g : Nat} {cs : List Value} (h : Bx w g cs) : g < w.heap.size := by
  obtain ⟨e, h⟩ := h
  exact (Array.getElem?_eq_some_iff.1 h).1
theorem Bx.keep {w w' : World} {g : Nat} {cs : List Value} (h : Bx w g cs) (hk : w'.heap[g]? = w.heap[g]?) : Bx w' g cs := by
  obtain ⟨e, h⟩ := h
  exact ⟨e, hk.trans h⟩
theorem Bx.below {w w' : World} {g : Nat} {cs : List Value} (h : Bx w g cs) (hb : Below w.heap.size w w') : Bx w' g cs := h.keep (hb.block g h.lt)
theorem Bx.grown {w w' : World} {g : Nat} {cs : List Value} {row : Option Nat} (h : Bx w g cs) (hg : w.grownBy w' row) (hne : row ≠ some g) : Bx w' g cs := h.keep (hg.block g h.lt (fun e => hne e.symm))
theorem Bx.drewN {w : World} {g : Nat} {cs : List Value} (h : Bx w g cs) (n : Nat) : Bx (w.drewN n) g cs := h.keep rfl
theorem Bx.drew {w : World} {g : Nat} {cs : List Value} (h : Bx w g cs) : Bx w.drew g cs := h.keep rfl
theorem Bx.set {w : World} {g : Nat} {cs : List Value} (h : Bx w g cs) (i : Nat) (x : Value) : Bx (w.setCell ⟨g, i, none⟩ x) g (cs.set i x) := by
  obtain ⟨e, h⟩ := h
  exact ⟨e, by rw [heap_setCell_same h]; simp⟩
theorem Bx.other {w : World} {g : Nat} {cs : List Value} (h : Bx w g cs) {a : Addr} (hne : a.block ≠ g) (x : Value) : Bx (w.setCell a x) g cs := h.keep (Below.heap_setCell _ _ _ _ (fun e => hne e.symm))
theorem Bx.new (w : World) (cs : Array Value) (e : TypeId) : Bx (w.alloc (.cells cs e)) w.heap.size cs.toList := ⟨e, by rw [heap_alloc_new]⟩
theorem Bx.alloc {w : World} {g : Nat} {cs : List Value} (h : Bx w g cs) (o : Obj) : Bx (w.alloc o) g cs := h.below ((Below.refl _ _).alloc (Nat.le_refl _) o)

theorem Own.form3' {w : World} {B : Nat} {e : TypeId} {v : Value} {xs : List Value} (h : Own w B e v xs) : ∃ a c, v = .slice a xs.length c := by
  obtain ⟨a, c, rfl, -⟩ := h.reads.form
  exact ⟨a, c, rfl⟩
theorem Own.blk_ne {w : World} {B : Nat} {e : TypeId} {v : Value} {xs : List Value} (h : Own w B e v xs) {g : Nat} (hg : g < B) : blk v ≠ some g := fun e => by have := (h.blk_lt e).1; omega
theorem Own.set_block {w : World} {B : Nat} {e : TypeId} {v : Value} {xs : List Value} (h : Own w B e v xs) {g : Nat} (hg : g < B) (i : Nat) (x : Value) : Own (w.setCell ⟨g, i, none⟩ x) B e v xs :=
  h.keep fun k hk _ => Below.heap_setCell _ _ _ _ (fun e => by have := (h.blk_lt hk).1; simp at e; omega)
theorem Own.nilv (w : World) (B : Nat) (e : TypeId) : Own w B e (.slice none 0 0) [] := .inl ⟨rfl, rfl⟩

end Go.Proofs.YtkgdbobhppmaiaaDoor
