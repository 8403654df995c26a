/- Walks of the first exact laws: constants, needles, names, beds, permutations. -/
import Derived.Test.YtgibgcjpehcemaaPer
import Derived.Test.YtgibgcjpehcemaaWpa
import Derived.Test.YtgibgcjpehcemaaApq
namespace Go.Proofs.Ytgibgcjpehcemaa
open Go.RowKit

/-- the name of a code -/
def nameF : Int → ByteArray
  | 0 => ⟨#[111, 107]⟩
  | 1 => ⟨#[105, 110, 118, 97, 108, 105, 100]⟩
  | 2 => ⟨#[114, 97, 110, 103, 101]⟩
  | 3 => ⟨#[110, 111, 116, 45, 102, 111, 117, 110, 100]⟩
  | 4 => ⟨#[101, 120, 105, 115, 116, 115]⟩
  | 5 => ⟨#[102, 117, 108, 108]⟩
  | 6 => ⟨#[115, 116, 97, 116, 101]⟩
  | 7 => ⟨#[101, 109, 112, 116, 121]⟩
  | 8 => ⟨#[114, 97, 99, 107]⟩
  | 9 => ⟨#[99, 97, 114, 114, 105, 101, 114]⟩
  | 10 => ⟨#[115, 116, 105, 116, 99, 104, 101, 115]⟩
  | 11 => ⟨#[115, 121, 110, 116, 97, 120]⟩
  | 12 => ⟨#[112, 108, 97, 110]⟩
  | _ => ⟨#[]⟩
theorem nameF_out {k : Int} (h : inB k 0 12 = false) : nameF k = ⟨#[]⟩ := by
  simp [inB] at h
  unfold nameF
  split <;> first | rfl | omega
theorem thirteen {k : Int} (h : inB k 0 12 = true) : k = 0 ∨ k = 1 ∨ k = 2 ∨ k = 3 ∨ k = 4 ∨ k = 5 ∨ k = 6 ∨ k = 7 ∨ k = 8 ∨ k = 9 ∨ k = 10 ∨ k = 11 ∨ k = 12 := by
  simp [inB] at h; omega

/-- the walk's step at a slice literal whose run is known -/
theorem wpList_bs {P : Program} {w w' : World} {ops : Array Oper} {rest : List Oper} {o : Oper} {a : Act} {Q : Exit → Act → World → Prop} {v' : Value} {T n : Nat} {vals : Array (Nat × Value)}
    (hr : (Instr.buildSlice T n vals).run P w = .ok v' w') (hg : o.guard = none) (parts : Array (Nat × Operand))
    (ho : o.op = .buildSlice T n parts) (hv : parts.map (fun x => (x.1, a.eval x.2)) = vals)
    (hK : wpList P ops Q rest (a.put o.dst v') w') : wpList P ops Q (o :: rest) a w := by
  refine wpList_plain hg fun K hK' => ?_
  unfold Oper.wp
  subst hv
  simp [execOp, ho, hr, Result.andThen]
  exact hK' _ _ hK

def nameCells : Array Value := #[.string ⟨#[111, 107]⟩, .string ⟨#[105, 110, 118, 97, 108, 105, 100]⟩, .string ⟨#[114, 97, 110, 103, 101]⟩, .string ⟨#[110, 111, 116, 45, 102, 111, 117, 110, 100]⟩, .string ⟨#[101, 120, 105, 115, 116, 115]⟩, .string ⟨#[102, 117, 108, 108]⟩, .string ⟨#[115, 116, 97, 116, 101]⟩, .string ⟨#[101, 109, 112, 116, 121]⟩, .string ⟨#[114, 97, 99, 107]⟩, .string ⟨#[99, 97, 114, 114, 105, 101, 114]⟩, .string ⟨#[115, 116, 105, 116, 99, 104, 101, 115]⟩, .string ⟨#[115, 121, 110, 116, 97, 120]⟩, .string ⟨#[112, 108, 97, 110]⟩]
def nameParts : Array (Nat × Value) := #[(0, .string ⟨#[111, 107]⟩), (1, .string ⟨#[105, 110, 118, 97, 108, 105, 100]⟩), (2, .string ⟨#[114, 97, 110, 103, 101]⟩), (3, .string ⟨#[110, 111, 116, 45, 102, 111, 117, 110, 100]⟩), (4, .string ⟨#[101, 120, 105, 115, 116, 115]⟩), (5, .string ⟨#[102, 117, 108, 108]⟩), (6, .string ⟨#[115, 116, 97, 116, 101]⟩), (7, .string ⟨#[101, 109, 112, 116, 121]⟩), (8, .string ⟨#[114, 97, 99, 107]⟩), (9, .string ⟨#[99, 97, 114, 114, 105, 101, 114]⟩), (10, .string ⟨#[115, 116, 105, 116, 99, 104, 101, 115]⟩), (11, .string ⟨#[115, 121, 110, 116, 97, 120]⟩), (12, .string ⟨#[112, 108, 97, 110]⟩)]
theorem name_cell (w : World) {k : Int} (h : inB k 0 12 = true) : (w.alloc (.cells nameCells 9)).cell? ⟨w.heap.size, k.toNat, none⟩ = some (.string (nameF k)) := by
  rw [World.cell?_alloc_new]
  rcases thirteen h with rfl | rfl | rfl | rfl | rfl | rfl | rfl | rfl | rfl | rfl | rfl | rfl | rfl <;> rfl

/-- beds: 1 and 2 -/
def bedF (b : Int) : Bool := inB b 1 2

/-- the other bed -/
def otherF (b : Int) : Int := if b = 1 then 2 else if b = 2 then 1 else 0

/-- whether a needle is valid -/
def needleF (b a : Int) : Bool := bedF b && inB a 0 23

end Go.Proofs.Ytgibgcjpehcemaa

namespace Go.Proofs.Ytgibgcjpehcemaa
open Go.RowKit

def byteAt (s : ByteArray) (i : Nat) : Int := (s.data.toList[i]?.getD 0).toNat
def smallB (x : Int) : Bool := inB x 97 122
def digitB (x : Int) : Bool := inB x 48 57
def nameOkTo (s : ByteArray) (k : Nat) : Bool := (List.range k).all fun i => smallB (byteAt s i) || (decide (i ≠ 0) && digitB (byteAt s i))
theorem nameOk_succ (s : ByteArray) (k : Nat) : nameOkTo s (k + 1) = (nameOkTo s k && (smallB (byteAt s k) || (decide (k ≠ 0) && digitB (byteAt s k)))) := by simp [nameOkTo, List.range_succ]
theorem nameOk_no {s : ByteArray} {k m : Nat} (h : (smallB (byteAt s k) || (decide (k ≠ 0) && digitB (byteAt s k))) = false) (hk : k < m) : nameOkTo s m = false := by
  cases e : nameOkTo s m with
  | false => rfl
  | true =>
    rw [nameOkTo, List.all_eq_true] at e
    have := e k (by simpa using hk)
    rw [h] at this; cases this
/-- whether s is a name -/
def nameIs (s : ByteArray) : Bool := decide (1 ≤ s.size) && decide (s.size ≤ 10) && nameOkTo s s.size

theorem empty_iff (s : ByteArray) : s.toList.isEmpty = true ↔ s.size = 0 := by
  rw [List.isEmpty_iff, ByteArray.toList_eq]
  constructor
  · intro h; have : s.data.toList.length = 0 := by rw [h]; rfl
    exact this
  · intro h; exact List.eq_nil_of_length_eq_zero h
theorem byteAt_eq (s : ByteArray) {k : Nat} (h : k < s.size) : ((s[k].toNat : Nat) : Int) = byteAt s k := by
  unfold byteAt
  have e : s.data.toList[k]? = some s[k] := by
    rw [List.getElem?_eq_getElem (by exact h)]; rfl
  rw [e]; rfl
theorem byte_bd (s : ByteArray) (k : Nat) : 0 ≤ byteAt s k ∧ byteAt s k < 256 := by
  unfold byteAt
  have := (s.data.toList[k]?.getD 0).toNat_lt
  omega

end Go.Proofs.Ytgibgcjpehcemaa

namespace Go.Proofs.Ytgibgcjpehcemaa
open Go.RowKit

theorem stays {P : Program} {f : FuncId} {args : Array Value} {w : World} {r : Ending} (h : Calls P f args w fun e w' => e = r ∧ w = w') : Calls P f args w fun e w' => e = r ∧ Below w.heap.size w w' :=
  h.mono fun _ _ ⟨he, hw⟩ => ⟨he, hw ▸ Below.refl _ _⟩

set_option maxHeartbeats 400000 in
theorem VPS (v : Value) (l : List Int) (w : World) (h : Reads w v (ints l)) :
    Calls Try.prog 25 #[v] w fun e w' => e = .returned (.bool (okP l)) ∧ Below w.heap.size w w' := by
  go_enter Try.func25, Try.ntmps25
  go_wp2_with fail
  refine (ok_spec _ _ _ h).mono ?_
  rintro e w1 ⟨rfl, hb⟩
  go_wp2_with fail
  go_ret
  exact ⟨rfl, hb⟩

end Go.Proofs.Ytgibgcjpehcemaa
