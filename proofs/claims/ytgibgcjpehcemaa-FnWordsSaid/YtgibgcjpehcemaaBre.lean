/- Contracts: inverse words. -/
import Derived.Test.YtgibgcjpehcemaaBrd
import Derived.Test.YtgibgcjpehcemaaSwp
namespace Go.Proofs.Ytgibgcjpehcemaa
open Go.RowKit

/-- 'make([]T, 0, n)' -/
def capV (w : World) (n : Nat) : Value := .slice (some ⟨w.heap.size, 0, none⟩) 0 n
theorem own_cap (w : World) (e : TypeId) (n : Nat) (z : Value) (hn : n ≤ 9223372036854775807) {B : Nat} (hB : B ≤ w.heap.size) :
    Own (madeW w e z n) B e (capV w n) [] :=
  .inr ⟨w.heap.size, 0, n, madeCells #[z] n, by simp [capV], hB, heap_alloc_new w _, by simp, hn, by simp [madeCells], by simp⟩
theorem cap_run {P : Program} {T e : TypeId} {z : Value} {b : Nat} (hT : P.underlying T = some (.slice e)) (hi : (P.info? e).map (fun i => (i.zero, i.size, i.bytes)) = some (some z, 1, b)) (hz : z.cells = #[z])
    (n : Int) (h0 : 0 ≤ n) (hb : (b : Int) * n ≤ 281474976710656) (hn : n ≤ 1099511627776) (w : World) :
    (Instr.makeSlice T (.int .i64 0) (.int .i64 n)).run P w = .ok (capV w n.toNat) (madeW w e z n.toNat) := by
  obtain ⟨i, hi, hz', h1, h8⟩ := info_parts hi
  have hr := run_make (P := P) w T e i z hT hi hz' .i64 .i64 0 n (by omega) h0 (by rw [h8]; omega) (by omega)
  rw [hr, h1, hz]; simp [capV, madeW]

/-- the inverse of a word -/
def invW (l : List Int) : List Int := l.reverse.map (- ·)
@[simp] theorem length_invW (l : List Int) : (invW l).length = l.length := by simp [invW]
theorem nth_invW {l : List Int} {i : Nat} (h : i < l.length) : nth (invW l) i = - nth l (l.length - 1 - i) := by
  rw [invW, nth_map _ (by simpa using h), nth_reverse h]
theorem invW_take {l : List Int} {k : Nat} (h : k < l.length) : (invW l).take (k + 1) = (invW l).take k ++ [- nth l (l.length - 1 - k)] := by
  rw [List.take_add_one, nth_of (by simpa using h), nth_invW h]; rfl


end Go.Proofs.Ytgibgcjpehcemaa
