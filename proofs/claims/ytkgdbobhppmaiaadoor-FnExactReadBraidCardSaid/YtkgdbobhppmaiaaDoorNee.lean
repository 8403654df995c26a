/- Contracts: names of codes, beds and needles. -/
import Derived.Test.YtkgdbobhppmaiaaDoorPer
namespace Go.Proofs.YtkgdbobhppmaiaaDoor
open Go.RowKit

/-- the name of a code -/
def nameF : Int → ByteArray
  | 0 => ⟨#[111, 107]⟩
  | 1 => ⟨#[105, 110, 118, 97, 108, 105, 100]⟩
  | 2 => ⟨#[114, 97, 110, 103, 101]⟩
  | 3 => ⟨#[110, 111, 116, 45, 102, 111, 117, 110, 100]⟩
  | 4 => ⟨#[101, 120, 105, 115, 116, 115]⟩
  | 5 => ⟨#[102, 117, 108, 108]⟩
  | 6 => ⟨#[115, 116, 97, 116, 101]⟩
  | 7 => ⟨#[101, 109, 112, 116, 121]⟩
  | 8 => ⟨#[114, 97, 99, 107]⟩
  | 9 => ⟨#[99, 97, 114, 114, 105, 101, 114]⟩
  | 10 => ⟨#[115, 116, 105, 116, 99, 104, 101, 115]⟩
  | 11 => ⟨#[115, 121, 110, 116, 97, 120]⟩
  | 12 => ⟨#[112, 108, 97, 110]⟩
  | _ => ⟨#[]⟩
theorem nameF_out {k : Int} (h : inB k 0 12 = false) : nameF k = ⟨#[]⟩ := by
  simp [inB] at h
  unfold nameF
  split <;> first | rfl | omega
theorem thirteen {k : Int} (h : inB k 0 12 = true) : k = 0 ∨ k = 1 ∨ k = 2 ∨ k = 3 ∨ k = 4 ∨ k = 5 ∨ k = 6 ∨ k = 7 ∨ k = 8 ∨ k = 9 ∨ k = 10 ∨ k = 11 ∨ k = 12 := by
  simp [inB] at h; omega

/-- the walk's step at a slice literal whose run is known -/
theorem wpList_bs {P : Program} {w w' : World} {ops : Array Oper} {rest : List Oper} {o : Oper} {a : Act} {Q : Exit → Act → World → Prop} {v' : Value} {T n : Nat} {vals : Array (Nat × Value)}
    (hr : (Instr.buildSlice T n vals).run P w = .ok v' w') (hg : o.guard = none) (parts : Array (Nat × Operand))
    (ho : o.op = .buildSlice T n parts) (hv : parts.map (fun x => (x.1, a.eval x.2)) = vals)
    (hK : wpList P ops Q rest (a.put o.dst v') w') : wpList P ops Q (o :: rest) a w := by
  refine wpList_plain hg fun K hK' => ?_
  unfold Oper.wp
  subst hv
  simp [execOp, ho, hr, Result.andThen]
  exact hK' _ _ hK

def nameCells : Array Value := #[.string ⟨#[111, 107]⟩, .string ⟨#[105, 110, 118, 97, 108, 105, 100]⟩, .string ⟨#[114, 97, 110, 103, 101]⟩, .string ⟨#[110, 111, 116, 45, 102, 111, 117, 110, 100]⟩, .string ⟨#[101, 120, 105, 115, 116, 115]⟩, .string ⟨#[102, 117, 108, 108]⟩, .string ⟨#[115, 116, 97, 116, 101]⟩, .string ⟨#[101, 109, 112, 116, 121]⟩, .string ⟨#[114, 97, 99, 107]⟩, .string ⟨#[99, 97, 114, 114, 105, 101, 114]⟩, .string ⟨#[115, 116, 105, 116, 99, 104, 101, 115]⟩, .string ⟨#[115, 121, 110, 116, 97, 120]⟩, .string ⟨#[112, 108, 97, 110]⟩]
def nameParts : Array (Nat × Value) := #[(0, .string ⟨#[111, 107]⟩), (1, .string ⟨#[105, 110, 118, 97, 108, 105, 100]⟩), (2, .string ⟨#[114, 97, 110, 103, 101]⟩), (3, .string ⟨#[110, 111, 116, 45, 102, 111, 117, 110, 100]⟩), (4, .string ⟨#[101, 120, 105, 115, 116, 115]⟩), (5, .string ⟨#[102, 117, 108, 108]⟩), (6, .string ⟨#[115, 116, 97, 116, 101]⟩), (7, .string ⟨#[101, 109, 112, 116, 121]⟩), (8, .string ⟨#[114, 97, 99, 107]⟩), (9, .string ⟨#[99, 97, 114, 114, 105, 101, 114]⟩), (10, .string ⟨#[115, 116, 105, 116, 99, 104, 101, 115]⟩), (11, .string ⟨#[115, 121, 110, 116, 97, 120]⟩), (12, .string ⟨#[112, 108, 97, 110]⟩)]
theorem build_names (w : World) : (Instr.buildSlice 30 13 nameParts).run Tryd.prog w = .ok (.slice (some ⟨w.heap.size, 0, none⟩) 13 13) (w.alloc (.cells nameCells 9)) := by kernel_rfl
theorem name_cell (w : World) {k : Int} (h : inB k 0 12 = true) : (w.alloc (.cells nameCells 9)).cell? ⟨w.heap.size, k.toNat, none⟩ = some (.string (nameF k)) := by
  rw [World.cell?_alloc_new]
  rcases thirteen h with rfl | rfl | rfl | rfl | rfl | rfl | rfl | rfl | rfl | rfl | rfl | rfl | rfl <;> rfl

set_option maxRecDepth 100000 in
set_option maxHeartbeats 1000000 in
theorem code_impl (k : Int) (w : World) :
    Calls Tryd.prog 32 #[.int .i64 k] w fun e w' => e = .returned (.string (nameF k)) ∧ Below w.heap.size w w' := by
  have hbs := hid (build_names w)
  cases e1 : inB k 0 12 with
  | false =>
    rw [nameF_out e1]
    go_enter Tryd.func32, Tryd.ntmps32
    go_wp2_with ((with_reducible refine wpList_bs hbs.out rfl _ rfl ?hv ?_))
    case hv => simp [nameParts, Act.eval]
    refine (in_impl _ _ _ _).mono ?_
    rintro e w1 ⟨rfl, rfl⟩
    rw [e1]
    go_wp2_with fail
    go_ret
    exact ⟨rfl, (Below.refl _ _).alloc (Nat.le_refl _) _⟩
  | true =>
    obtain ⟨k0, k1⟩ := inB_yes e1
    have hc := name_cell w e1
    generalize nameF k = s at *
    go_enter Tryd.func32, Tryd.ntmps32
    go_wp2_with ((with_reducible refine wpList_bs hbs.out rfl _ rfl ?hv ?_))
    case hv => simp [nameParts, Act.eval]
    refine (in_impl _ _ _ _).mono ?_
    rintro e w1 ⟨rfl, rfl⟩
    rw [e1]
    go_wp2_with fail
    go_ret
    exact ⟨rfl, (Below.refl _ _).alloc (Nat.le_refl _) _⟩

/-- beds: 1 and 2 -/
def bedF (b : Int) : Bool := inB b 1 2

set_option maxRecDepth 100000 in
set_option maxHeartbeats 400000 in
theorem bed_spec (b : Int) (w : World) :
    Calls Tryd.prog 83 #[.int .i64 b] w fun e w' => e = .returned (.bool (bedF b)) ∧ w = w' := by
  go_enter Tryd.func83, Tryd.ntmps83
  go_wp2_with fail
  refine (in_spec _ _ _ _).mono ?_
  rintro e w1 ⟨rfl, rfl⟩
  go_wp2_with fail
  go_ret
  exact ⟨rfl, rfl⟩

set_option maxRecDepth 100000 in
set_option maxHeartbeats 400000 in
theorem bed_impl (b : Int) (w : World) :
    Calls Tryd.prog 85 #[.int .i64 b] w fun e w' => e = .returned (.bool (bedF b)) ∧ w = w' := by
  by_cases h1 : b = 1
  · subst h1
    go_enter Tryd.func85, Tryd.ntmps85
    go_wp2_with fail
    go_ret
    exact ⟨rfl, rfl⟩
  · by_cases h2 : b = 2
    · subst h2
      go_enter Tryd.func85, Tryd.ntmps85
      go_wp2_with fail
      go_ret
      exact ⟨rfl, rfl⟩
    · have e1 : (b == 1) = false := by simpa using h1
      have e2 : (b == 2) = false := by simpa using h2
      have e3 : bedF b = false := by simp [bedF, inB]; omega
      clear h1 h2
      go_enter Tryd.func85, Tryd.ntmps85
      go_wp2_with fail
      go_ret
      exact ⟨by first | rfl | (rw [e3]; rfl), rfl⟩

/-- the other bed -/
def otherF (b : Int) : Int := if b = 1 then 2 else if b = 2 then 1 else 0

set_option maxRecDepth 100000 in
set_option maxHeartbeats 400000 in
theorem other_impl (b : Int) (w : World) :
    Calls Tryd.prog 31 #[.int .i64 b] w fun e w' => e = .returned (.int .i64 (otherF b)) ∧ w = w' := by
  by_cases h1 : b = 1
  · subst h1
    go_enter Tryd.func31, Tryd.ntmps31
    go_wp2_with fail
    go_ret
    exact ⟨rfl, rfl⟩
  · by_cases h2 : b = 2
    · subst h2
      go_enter Tryd.func31, Tryd.ntmps31
      go_wp2_with fail
      go_ret
      exact ⟨rfl, rfl⟩
    · have e1 : (b == 1) = false := by simpa using h1
      have e2 : (b == 2) = false := by simpa using h2
      have e3 : otherF b = 0 := by unfold otherF; rw [if_neg h1, if_neg h2]
      rw [e3]
      clear h1 h2 e3
      go_enter Tryd.func31, Tryd.ntmps31
      go_wp2_with fail
      go_ret
      exact ⟨rfl, rfl⟩

/-- whether a needle is valid -/
def needleF (b a : Int) : Bool := bedF b && inB a 0 23

set_option maxRecDepth 100000 in
set_option maxHeartbeats 400000 in
theorem needle_spec (b a : Int) (w : World) :
    Calls Tryd.prog 49 #[.agg #[.int .i64 b, .int .i64 a]] w fun e w' => e = .returned (.bool (needleF b a)) ∧ Below w.heap.size w w' := by
  cases e1 : bedF b with
  | false =>
    go_enter Tryd.func49, Tryd.ntmps49
    go_wp2_with fail
    refine (bed_spec _ _).mono ?_
    rintro e w1 ⟨rfl, rfl⟩
    rw [e1]
    go_wp2_with fail
    go_ret
    exact ⟨ret_bool (by simp [needleF, e1]), (Below.refl _ _).alloc (Nat.le_refl _) _⟩
  | true =>
    go_enter Tryd.func49, Tryd.ntmps49
    go_wp2_with fail
    refine (bed_spec _ _).mono ?_
    rintro e w1 ⟨rfl, rfl⟩
    rw [e1]
    go_wp2_with fail
    refine (in_spec _ _ _ _).mono ?_
    rintro e w1 ⟨rfl, rfl⟩
    go_wp2_with fail
    go_ret
    exact ⟨ret_bool (by simp [needleF, e1]), (Below.refl _ _).alloc (Nat.le_refl _) _⟩

set_option maxRecDepth 100000 in
set_option maxHeartbeats 400000 in
theorem ValidNeedleI (b a : Int) (w : World) :
    Calls Tryd.prog 51 #[.agg #[.int .i64 b, .int .i64 a]] w fun e w' => e = .returned (.bool (needleF b a)) ∧ Below w.heap.size w w' := by
  cases e1 : bedF b with
  | false =>
    go_enter Tryd.func51, Tryd.ntmps51
    go_wp2_with fail
    refine (bed_impl _ _).mono ?_
    rintro e w1 ⟨rfl, rfl⟩
    rw [e1]
    go_wp2_with fail
    go_ret
    exact ⟨ret_bool (by simp [needleF, e1]), (Below.refl _ _).alloc (Nat.le_refl _) _⟩
  | true =>
    go_enter Tryd.func51, Tryd.ntmps51
    go_wp2_with fail
    refine (bed_impl _ _).mono ?_
    rintro e w1 ⟨rfl, rfl⟩
    rw [e1]
    go_wp2_with fail
    refine (in_impl _ _ _ _).mono ?_
    rintro e w1 ⟨rfl, rfl⟩
    go_wp2_with fail
    go_ret
    exact ⟨ret_bool (by simp [needleF, e1]), (Below.refl _ _).alloc (Nat.le_refl _) _⟩

end Go.Proofs.YtkgdbobhppmaiaaDoor
