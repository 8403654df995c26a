/- What a call owns, in intervals of blocks: what is made later lies apart by its numbers alone. Plain laws of memory. -/
import Derived.Test.YtmeccemnmkobbaaBx
import Derived.Deep.DeepCutAuto
namespace Go.Proofs.Ytmeccemnmkobbaa
open Go.RowKit

/-- v is a slice in blocks from lo on and below hi, and reads as xs -/
structure OwnI (w : World) (lo hi : Nat) (e : TypeId) (v : Value) (xs : List Value) : Prop where
  own : Own w lo e v xs
  top : ∀ k, blk v = some k → k < hi
/-- only blocks from lo on and below hi, and new ones, have changed -/
structure GrI (w w' : World) (lo hi : Nat) : Prop where
  os : w'.os = w.os
  tape : w'.tape = w.tape
  output : w'.output = w.output
  size : w.heap.size ≤ w'.heap.size
  block : ∀ k, k < w.heap.size → k < lo ∨ hi ≤ k → w'.heap[k]? = w.heap[k]?
theorem OwnI.of {w w' : World} {e : TypeId} {v : Value} {xs : List Value} (h : Own w' w.heap.size e v xs) : OwnI w' w.heap.size w'.heap.size e v xs := ⟨h, fun _ hk => (h.blk_lt hk).2⟩
theorem OwnI.reads {w : World} {lo hi : Nat} {e : TypeId} {v : Value} {xs : List Value} (h : OwnI w lo hi e v xs) : Reads w v xs := h.own.reads
theorem OwnI.below {w w' : World} {lo hi : Nat} {e : TypeId} {v : Value} {xs : List Value} (h : OwnI w lo hi e v xs) (hb : Below w.heap.size w w') : OwnI w' lo hi e v xs := ⟨h.own.below hb, h.top⟩
theorem OwnI.alloc {w : World} {lo hi : Nat} {e : TypeId} {v : Value} {xs : List Value} (h : OwnI w lo hi e v xs) (o : Obj) : OwnI (w.alloc o) lo hi e v xs := ⟨own_alloc h.own o, h.top⟩
theorem OwnI.gri {w w' : World} {lo hi lo' hi' : Nat} {e : TypeId} {v : Value} {xs : List Value} (h : OwnI w lo' hi' e v xs) (hg : GrI w w' lo hi) (hd : hi' ≤ lo ∨ hi ≤ lo') : OwnI w' lo' hi' e v xs :=
  ⟨h.own.keep fun k hk hlt => hg.block k hlt (by have := h.top k hk; have := (h.own.blk_lt hk).1; omega), h.top⟩
theorem Bx.gri {w w' : World} {lo hi g : Nat} {cs : List Value} (h : Bx w g cs) (hg : GrI w w' lo hi) (hd : g < lo ∨ hi ≤ g) : Bx w' g cs := h.keep (hg.block g h.lt hd)
theorem GrI.of {w w' : World} {lo hi : Nat} {e : TypeId} {v : Value} {xs : List Value} (h : OwnI w lo hi e v xs) (hg : w.grownBy w' (blk v)) : GrI w w' lo hi :=
  ⟨hg.os, hg.tape, hg.output, hg.size, fun k hk hd => hg.block k hk (fun e => by have := h.top k e.symm; have := (h.own.blk_lt e.symm).1; omega)⟩
theorem OwnI.marked {w w' : World} {lo hi : Nat} {e : TypeId} {v : Value} {xs ys : List Value} (h : OwnI w lo hi e v xs) (ho : Own w' lo e v ys) : OwnI w' lo hi e v ys := ⟨ho, h.top⟩
theorem below_gri {B lo hi : Nat} {a w w' : World} (h : Below B a w) (hg : GrI w w' lo hi) (hB : B ≤ lo) (hs : B ≤ w.heap.size) : Below B a w' := by
  refine ⟨hg.os.trans h.os, hg.tape.trans h.tape, hg.output.trans h.output, Nat.le_trans h.size hg.size, ?_⟩
  intro k hk
  exact (hg.block k (by omega) (.inl (by omega))).trans (h.block k hk)
theorem OwnI.lower {w : World} {lo lo' hi : Nat} {e : TypeId} {v : Value} {xs : List Value} (h : OwnI w lo hi e v xs) (hl : lo' ≤ lo) : OwnI w lo' hi e v xs := ⟨h.own.mono hl, h.top⟩
theorem OwnI.lowered {w : World} {lo lo' hi hi' : Nat} {e : TypeId} {v : Value} {xs : List Value} (h : OwnI w lo hi e v xs) (hl : lo' ≤ lo) (hh : hi ≤ hi' := by simp [World.setCell]) : OwnI w lo' hi' e v xs := ⟨h.own.mono hl, fun k hk => Nat.lt_of_lt_of_le (h.top k hk) hh⟩
theorem OwnI.topped {w : World} {lo hi hi' : Nat} {e : TypeId} {v : Value} {xs : List Value} (h : OwnI w lo hi e v xs) (hh : hi ≤ hi') : OwnI w lo hi' e v xs := ⟨h.own, fun k hk => Nat.lt_of_lt_of_le (h.top k hk) hh⟩
theorem OwnI.setAt {w : World} {lo hi : Nat} {e : TypeId} {v : Value} {xs : List Value} (h : OwnI w lo hi e v xs) {g : Nat} (hg : g < lo) (i : Nat) (x : Value) : OwnI (w.setCell ⟨g, i, none⟩ x) lo hi e v xs :=
  ⟨h.own.keep fun k hk _ => Below.heap_setCell _ _ _ _ (fun e => by have := (h.own.blk_lt hk).1; simp at e; omega), h.top⟩
theorem OwnI.form {w : World} {lo hi : Nat} {e : TypeId} {v : Value} {xs : List Value} (h : OwnI w lo hi e v xs) : ∃ a n c, v = .slice a n c := by
  obtain ⟨a, c, rfl, -⟩ := h.own.reads.form
  exact ⟨a, _, c, rfl⟩

end Go.Proofs.Ytmeccemnmkobbaa
