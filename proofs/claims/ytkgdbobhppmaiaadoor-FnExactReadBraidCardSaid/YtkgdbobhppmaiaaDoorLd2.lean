/- Texts of needles: contracts and the law's walk. -/
import Derived.Test.YtkgdbobhppmaiaaDoorLd1
import Derived.Test.YtkgdbobhppmaiaaDoorNee
import Derived.Test.YtkgdbobhppmaiaaDoorBx
import Derived.Lib.ItoaLen
namespace Go.Proofs.YtkgdbobhppmaiaaDoor
open Go.RowKit
open Go.Lib (itoa)

/-- the text of a needle -/
def ntL (b a : Int) : List UInt8 := (if b = 1 then 102 else 98) :: itoa a
def ntF (b a : Int) : List UInt8 := if needleF b a = true then ntL b a else []
theorem needle_in {b a : Int} (h : needleF b a = true) : (b = 1 ∨ b = 2) ∧ 0 ≤ a ∧ a ≤ 23 := by
  unfold needleF bedF at h
  simp only [Bool.and_eq_true] at h
  have h1 := inB_yes h.1
  have h2 := inB_yes h.2
  omega


set_option maxRecDepth 100000 in
set_option maxHeartbeats 2000000 in
theorem TextS (b a : Int) (w : World) (h0 : 0 ≤ a) (h1 : a ≤ 23) :
    Calls Tryd.prog 50 #[.agg #[.int .i64 b, .int .i64 a]] w fun e w' => e = .returned (.string ⟨(ntL b a).toArray⟩) ∧ Below w.heap.size w w' := by
  have hB := Bx.new w #[.int .i64 b, .int .i64 a] 27
  have hb : Below w.heap.size w (w.alloc (.cells #[.int .i64 b, .int .i64 a] 27)) := (Below.refl _ _).alloc (Nat.le_refl _) _
  have c0 := hB.cell 0 rfl
  have c1 := hB.cell 1 rfl
  have hil := Lib.itoa_length_le a (by omega) (by omega)
  by_cases hb1 : b = 1
  case' pos =>
    subst hb1
    have he := hid (str_app [102] (itoa a))
  case' neg =>
    have he := hid (str_app [98] (itoa a))
    have hbn : (b == 1) = false := beq_eq_false_iff_ne.2 hb1
    replace hb1 := hid hb1
  all_goals
    replace hB := hid hB
    replace hb := hid hb
    go_enter Tryd.func50, Tryd.ntmps50
    go_wp2_with fail
    refine (DecS a _ (by omega) (by omega)).mono ?_
    rintro e w1 ⟨rfl, hs⟩
    have hb2 := hid (hb.out.trans (hs.mono hb.out.size))
    clear hs hb hB c0 c1
    go_wp2_with fail
    go_ret
    refine ⟨?_, hb2.out⟩
    unfold ntL
    first | (rw [if_pos rfl]; exact congrArg (fun x => Ending.returned (.string x)) he.out) | (rw [if_neg hb1.out]; exact congrArg (fun x => Ending.returned (.string x)) he.out)


set_option maxRecDepth 100000 in
set_option maxHeartbeats 2000000 in
theorem TextI (b a : Int) (w : World) (h0 : 0 ≤ a) (h1 : a ≤ 23) (hT : Tb w) :
    Calls Tryd.prog 52 #[.agg #[.int .i64 b, .int .i64 a]] w fun e w' => e = .returned (.string ⟨(ntL b a).toArray⟩) ∧ Below w.heap.size w w' := by
  have hB := Bx.new w #[.int .i64 b, .int .i64 a] 27
  have hb : Below w.heap.size w (w.alloc (.cells #[.int .i64 b, .int .i64 a] 27)) := (Below.refl _ _).alloc (Nat.le_refl _) _
  have c0 := hB.cell 0 rfl
  have c1 := hB.cell 1 rfl
  have hil := Lib.itoa_length_le a (by omega) (by omega)
  by_cases hb1 : b = 1
  case' pos =>
    subst hb1
    have he := hid (str_app [102] (itoa a))
  case' neg =>
    have he := hid (str_app [98] (itoa a))
    have hbn : (b == 1) = false := beq_eq_false_iff_ne.2 hb1
    replace hb1 := hid hb1
  all_goals
    replace hB := hid hB
    replace hb := hid hb
    go_enter Tryd.func52, Tryd.ntmps52
    go_wp2_with fail
    refine (DecI a _ (by omega) (by omega) (hT.below hb.out)).mono ?_
    rintro e w1 ⟨rfl, hs⟩
    have hb2 := hid (hb.out.trans (hs.mono hb.out.size))
    clear hs hb hB c0 c1
    go_wp2_with fail
    go_ret
    refine ⟨?_, hb2.out⟩
    unfold ntL
    first | (rw [if_pos rfl]; exact congrArg (fun x => Ending.returned (.string x)) he.out) | (rw [if_neg hb1.out]; exact congrArg (fun x => Ending.returned (.string x)) he.out)


set_option maxRecDepth 100000 in
set_option maxHeartbeats 2000000 in
theorem NeedleTextS (b a : Int) (w : World) :
    Calls Tryd.prog 14 #[.agg #[.int .i64 b, .int .i64 a]] w fun e w' => e = .returned (.string ⟨(ntF b a).toArray⟩) ∧ Below w.heap.size w w' := by
  have hB := Bx.new w #[.int .i64 b, .int .i64 a] 27
  have hb : Below w.heap.size w (w.alloc (.cells #[.int .i64 b, .int .i64 a] 27)) := (Below.refl _ _).alloc (Nat.le_refl _) _
  have c0 := hB.cell 0 rfl
  have c1 := hB.cell 1 rfl
  cases e1 : needleF b a with
  | false =>
    have hres : ntF b a = [] := by unfold ntF; rw [e1]; rfl
    replace hB := hid hB
    replace hb := hid hb
    replace hres := hid hres
    go_enter Tryd.func14, Tryd.ntmps14
    go_wp2_with fail
    refine (needle_spec b a _).mono ?_
    rintro e w1 ⟨rfl, hs⟩
    have hb2 := hid (hb.out.trans (hs.mono hb.out.size))
    clear hs hb hB c0 c1
    rw [e1]
    clear e1
    go_wp2_with fail
    go_ret
    exact ⟨by rw [hres.out]; rfl, hb2.out⟩
  | true =>
    have hres : ntF b a = ntL b a := by unfold ntF; rw [e1]; rfl
    have hin := needle_in e1
    have h0 := hin.2.1
    have h1 := hin.2.2
    replace hb := hid hb
    replace hres := hid hres
    clear hin
    have hB0 := hid hB
    clear hB
    go_enter Tryd.func14, Tryd.ntmps14
    go_wp2_with fail
    refine (needle_spec b a _).mono ?_
    rintro e w1 ⟨rfl, hs⟩
    have hb2 := hid (hb.out.trans (hs.mono hb.out.size))
    have hB2 := hB0.out.below hs
    clear c0 c1 hs hb hB0
    have c0 := hB2.cell 0 rfl
    have c1 := hB2.cell 1 rfl
    rw [e1]
    clear e1
    replace hB2 := hid hB2
    go_wp2_with fail
    refine (TextS b a _ h0 h1).mono ?_
    rintro e w2 ⟨rfl, hs⟩
    have hb3 := hid (hb2.out.trans (hs.mono hb2.out.size))
    clear hs hb2 hB2 c0 c1
    go_wp2_with fail
    go_ret
    exact ⟨by rw [hres.out]; rfl, hb3.out⟩


set_option maxRecDepth 100000 in
set_option maxHeartbeats 2000000 in
theorem NeedleTextI (b a : Int) (w : World) (hT : Tb w) :
    Calls Tryd.prog 16 #[.agg #[.int .i64 b, .int .i64 a]] w fun e w' => e = .returned (.string ⟨(ntF b a).toArray⟩) ∧ Below w.heap.size w w' := by
  have hB := Bx.new w #[.int .i64 b, .int .i64 a] 27
  have hb : Below w.heap.size w (w.alloc (.cells #[.int .i64 b, .int .i64 a] 27)) := (Below.refl _ _).alloc (Nat.le_refl _) _
  have c0 := hB.cell 0 rfl
  have c1 := hB.cell 1 rfl
  cases e1 : needleF b a with
  | false =>
    have hres : ntF b a = [] := by unfold ntF; rw [e1]; rfl
    replace hB := hid hB
    replace hb := hid hb
    replace hres := hid hres
    go_enter Tryd.func16, Tryd.ntmps16
    go_wp2_with fail
    refine (ValidNeedleI b a _).mono ?_
    rintro e w1 ⟨rfl, hs⟩
    have hb2 := hid (hb.out.trans (hs.mono hb.out.size))
    clear hs hb hB c0 c1
    rw [e1]
    clear e1
    go_wp2_with fail
    go_ret
    exact ⟨by rw [hres.out]; rfl, hb2.out⟩
  | true =>
    have hres : ntF b a = ntL b a := by unfold ntF; rw [e1]; rfl
    have hin := needle_in e1
    have h0 := hin.2.1
    have h1 := hin.2.2
    replace hb := hid hb
    replace hres := hid hres
    clear hin
    have hB0 := hid hB
    clear hB
    go_enter Tryd.func16, Tryd.ntmps16
    go_wp2_with fail
    refine (ValidNeedleI b a _).mono ?_
    rintro e w1 ⟨rfl, hs⟩
    have hb2 := hid (hb.out.trans (hs.mono hb.out.size))
    have hB2 := hB0.out.below hs
    clear c0 c1 hs hb hB0
    have c0 := hB2.cell 0 rfl
    have c1 := hB2.cell 1 rfl
    rw [e1]
    clear e1
    replace hB2 := hid hB2
    go_wp2_with fail
    refine (TextI b a _ h0 h1 (hT.below hb2.out)).mono ?_
    rintro e w2 ⟨rfl, hs⟩
    have hb3 := hid (hb2.out.trans (hs.mono hb2.out.size))
    clear hs hb2 hB2 c0 c1
    go_wp2_with fail
    go_ret
    exact ⟨by rw [hres.out]; rfl, hb3.out⟩


end Go.Proofs.YtkgdbobhppmaiaaDoor
