/-
  No cell of these rows narrows 'for every input' (looked for: loops, veiled, ifaces, maps, wideKeys, modest, calm, conditions, laid).
  DERIVED. THE GIVEN ROWS OF THIS SEAT. 6 by the template 'for every input the law returns true; each argument reads behind the call as it read before'; 0 by the template 'total and deterministic' (their statements: YtinhhdojalaeeaaTotals.lean).
  GIVEN WITH THE SEED: the statements are not yours to turn. If you find one false, say at which input.
  Laid BY PROGRAM, IN A SANDBOX (cutbox-rows.mjs): the forced cells as the released guide's own fill.sh prints them over the translation 0a04795bf78738a7… (all of the seat's roots in one cut). By AI agents, Wed Nov 11 2026. No macro, syntax, notation, axiom, sorry.
-/
import Derived.Test.YtinhhdojalaeeaaChecked
import GoSem.Claim
import GoSem.ClaimJoined
import GoSem.ClaimMapViews
import Derived.JoinedTies
import Derived.KernelRfl
namespace Go.Proofs.Ytinhhdojalaeeaa
/- THE CELL 'sum', in the pinned program and in every row, IS THE sha256 OF THE DUMP (.gsa) THAT YtinhhdojalaeeaaProg.lean LOADS. Nothing in Lean hashes anything: it is a label: what it is worth is what the hold of that sum in a sandbox is worth. -/
noncomputable def Try.pinned : Pinned := { name := "ytinhhdojalaeeaa", sum := "0a04795bf78738a7daa9ecc85181070ed6ecad0c6290cafa705b5d773d81c0d8", checked := Try.checked }
namespace Rows
def none {H : Type} : Left H := { results := [], args := [] }

/-- 'laws.FnExactConstants': WHATEVER THE INPUT: true; the input reads as it did. -/
def fnExactConstantsSpec : ChangeSpec := { name := "fnExactConstants", fn := fun _ => fun
  | [] => { results := [.lit (.bool true)], args := [] }
  | _ => none }
def fnExactConstantsRow : OpenClaim := { program := "ytinhhdojalaeeaa", sum := "0a04795bf78738a7daa9ecc85181070ed6ecad0c6290cafa705b5d773d81c0d8", func := "loop.example/g00856/laws.FnExactConstants", spec := "fnExactConstants", apart := false }
def FnExactConstantsSaid : Prop := fnExactConstantsRow.holds Try.pinned (OpenSpec.ofChange fnExactConstantsSpec)

/-- ITS FALSE NEIGHBOUR: 'it returns false'. Refute it at one input. -/
def fnExactConstantsWrong : ChangeSpec := { name := "fnExactConstants", fn := fun _ => fun
  | [] => { results := [.lit (.bool false)], args := [] }
  | _ => none }
def FnExactConstantsWrongFalsely : Prop := fnExactConstantsRow.holds Try.pinned (OpenSpec.ofChange fnExactConstantsWrong)

/-- 'laws.FnExactValidNeedle': WHATEVER THE INPUT: true; the input reads as it did. -/
def fnExactValidNeedleSpec : ChangeSpec := { name := "fnExactValidNeedle", fn := fun _ => fun
  | [d] => { results := [.lit (.bool true)], args := [d] }
  | _ => none }
def fnExactValidNeedleRow : OpenClaim := { program := "ytinhhdojalaeeaa", sum := "0a04795bf78738a7daa9ecc85181070ed6ecad0c6290cafa705b5d773d81c0d8", func := "loop.example/g00856/laws.FnExactValidNeedle", spec := "fnExactValidNeedle", apart := false }
def FnExactValidNeedleSaid : Prop := fnExactValidNeedleRow.holds Try.pinned (OpenSpec.ofChange fnExactValidNeedleSpec)

/-- ITS FALSE NEIGHBOUR: 'it returns false'. Refute it at one input. -/
def fnExactValidNeedleWrong : ChangeSpec := { name := "fnExactValidNeedle", fn := fun _ => fun
  | [d] => { results := [.lit (.bool false)], args := [d] }
  | _ => none }
def FnExactValidNeedleWrongFalsely : Prop := fnExactValidNeedleRow.holds Try.pinned (OpenSpec.ofChange fnExactValidNeedleWrong)

/-- 'laws.FnExactCodeName': WHATEVER THE INPUT: true; the input reads as it did. -/
def fnExactCodeNameSpec : ChangeSpec := { name := "fnExactCodeName", fn := fun _ => fun
  | [d] => { results := [.lit (.bool true)], args := [d] }
  | _ => none }
def fnExactCodeNameRow : OpenClaim := { program := "ytinhhdojalaeeaa", sum := "0a04795bf78738a7daa9ecc85181070ed6ecad0c6290cafa705b5d773d81c0d8", func := "loop.example/g00856/laws.FnExactCodeName", spec := "fnExactCodeName", apart := false }
def FnExactCodeNameSaid : Prop := fnExactCodeNameRow.holds Try.pinned (OpenSpec.ofChange fnExactCodeNameSpec)

/-- ITS FALSE NEIGHBOUR: 'it returns false'. Refute it at one input. -/
def fnExactCodeNameWrong : ChangeSpec := { name := "fnExactCodeName", fn := fun _ => fun
  | [d] => { results := [.lit (.bool false)], args := [d] }
  | _ => none }
def FnExactCodeNameWrongFalsely : Prop := fnExactCodeNameRow.holds Try.pinned (OpenSpec.ofChange fnExactCodeNameWrong)

/-- 'laws.FnExactOtherBed': WHATEVER THE INPUT: true; the input reads as it did. -/
def fnExactOtherBedSpec : ChangeSpec := { name := "fnExactOtherBed", fn := fun _ => fun
  | [d] => { results := [.lit (.bool true)], args := [d] }
  | _ => none }
def fnExactOtherBedRow : OpenClaim := { program := "ytinhhdojalaeeaa", sum := "0a04795bf78738a7daa9ecc85181070ed6ecad0c6290cafa705b5d773d81c0d8", func := "loop.example/g00856/laws.FnExactOtherBed", spec := "fnExactOtherBed", apart := false }
def FnExactOtherBedSaid : Prop := fnExactOtherBedRow.holds Try.pinned (OpenSpec.ofChange fnExactOtherBedSpec)

/-- ITS FALSE NEIGHBOUR: 'it returns false'. Refute it at one input. -/
def fnExactOtherBedWrong : ChangeSpec := { name := "fnExactOtherBed", fn := fun _ => fun
  | [d] => { results := [.lit (.bool false)], args := [d] }
  | _ => none }
def FnExactOtherBedWrongFalsely : Prop := fnExactOtherBedRow.holds Try.pinned (OpenSpec.ofChange fnExactOtherBedWrong)

/-- 'laws.FnExactIsName': WHATEVER THE INPUT: true; the input reads as it did. -/
def fnExactIsNameSpec : ChangeSpec := { name := "fnExactIsName", fn := fun _ => fun
  | [d] => { results := [.lit (.bool true)], args := [d] }
  | _ => none }
def fnExactIsNameRow : OpenClaim := { program := "ytinhhdojalaeeaa", sum := "0a04795bf78738a7daa9ecc85181070ed6ecad0c6290cafa705b5d773d81c0d8", func := "loop.example/g00856/laws.FnExactIsName", spec := "fnExactIsName", apart := false }
def FnExactIsNameSaid : Prop := fnExactIsNameRow.holds Try.pinned (OpenSpec.ofChange fnExactIsNameSpec)

/-- ITS FALSE NEIGHBOUR: 'it returns false'. Refute it at one input. -/
def fnExactIsNameWrong : ChangeSpec := { name := "fnExactIsName", fn := fun _ => fun
  | [d] => { results := [.lit (.bool false)], args := [d] }
  | _ => none }
def FnExactIsNameWrongFalsely : Prop := fnExactIsNameRow.holds Try.pinned (OpenSpec.ofChange fnExactIsNameWrong)

/-- 'laws.FnExactValidPermutation': WHATEVER THE INPUT: true; the input reads as it did. -/
def fnExactValidPermutationSpec : ChangeSpec := { name := "fnExactValidPermutation", fn := fun _ => fun
  | [d] => { results := [.lit (.bool true)], args := [d] }
  | _ => none }
def fnExactValidPermutationRow : OpenClaim := { program := "ytinhhdojalaeeaa", sum := "0a04795bf78738a7daa9ecc85181070ed6ecad0c6290cafa705b5d773d81c0d8", func := "loop.example/g00856/laws.FnExactValidPermutation", spec := "fnExactValidPermutation", apart := false }
def FnExactValidPermutationSaid : Prop := fnExactValidPermutationRow.holds Try.pinned (OpenSpec.ofChange fnExactValidPermutationSpec)

/-- ITS FALSE NEIGHBOUR: 'it returns false'. Refute it at one input. -/
def fnExactValidPermutationWrong : ChangeSpec := { name := "fnExactValidPermutation", fn := fun _ => fun
  | [d] => { results := [.lit (.bool false)], args := [d] }
  | _ => none }
def FnExactValidPermutationWrongFalsely : Prop := fnExactValidPermutationRow.holds Try.pinned (OpenSpec.ofChange fnExactValidPermutationWrong)

/- THE SECOND FORM. 'bulk': how many values and letters a reading holds, each counted each time it is reached (what is shared counts as often as it is met; a slice's spare places count too). A statement '..UptoSaid' is the law's where the arguments, and the package variables that the reading takes, are together of bulk at most 1048576: NARROWER than '..Said'. Prove '..Said' where nothing that the law and all that it calls make is longer than what came in: it says more and counts as full. Else prove '..UptoSaid'. A law counts once. -/
mutual
def uptoBulk {H : Type} : DataW H → Nat
  | .lit (.string bytes) => bytes.length + 1
  | .lit _ => 1
  | .nil => 1
  | .ptr d => uptoBulk d + 1
  | .slice elems spare => uptoBulkAll elems + uptoBulkAll spare + 1
  | .agg parts => uptoBulkAll parts + 1
  | .iface _ d => uptoBulk d + 1
  | .map entries => uptoBulkEntries entries + 1
  | .held _ => 1
def uptoBulkAll {H : Type} : List (DataW H) → Nat
  | [] => 0
  | d :: r => uptoBulk d + uptoBulkAll r
def uptoBulkEntries {H : Type} : List (Lit × DataW H) → Nat
  | [] => 0
  | x :: r => uptoBulkEntry x + uptoBulkEntries r
def uptoBulkEntry {H : Type} : Lit × DataW H → Nat
  | (.string bytes, d) => bytes.length + uptoBulk d + 1
  | (_, d) => uptoBulk d + 1
 end
def uptoSmall : (H : Type) → List (DataW H) → Bool := fun _ ds => decide (uptoBulkAll ds ≤ 1048576)
def OpenSpec.upto (s : _root_.Go.ChangeSpec) : _root_.Go.OpenSpec := { _root_.Go.OpenSpec.ofChange s with cond := some uptoSmall }

/-- 'laws.FnExactConstants', WHERE WHAT IT READS IS OF BULK AT MOST 1048576: true; the input reads as it did. -/
def fnExactConstantsUptoRow : OpenClaim := { program := "ytinhhdojalaeeaa", sum := "0a04795bf78738a7daa9ecc85181070ed6ecad0c6290cafa705b5d773d81c0d8", func := "loop.example/g00856/laws.FnExactConstants", spec := "fnExactConstants", apart := false, narrowed := true }
def FnExactConstantsUptoSaid : Prop := fnExactConstantsUptoRow.holds Try.pinned (OpenSpec.upto fnExactConstantsSpec)

/-- 'laws.FnExactValidNeedle', WHERE WHAT IT READS IS OF BULK AT MOST 1048576: true; the input reads as it did. -/
def fnExactValidNeedleUptoRow : OpenClaim := { program := "ytinhhdojalaeeaa", sum := "0a04795bf78738a7daa9ecc85181070ed6ecad0c6290cafa705b5d773d81c0d8", func := "loop.example/g00856/laws.FnExactValidNeedle", spec := "fnExactValidNeedle", apart := false, narrowed := true }
def FnExactValidNeedleUptoSaid : Prop := fnExactValidNeedleUptoRow.holds Try.pinned (OpenSpec.upto fnExactValidNeedleSpec)

/-- 'laws.FnExactCodeName', WHERE WHAT IT READS IS OF BULK AT MOST 1048576: true; the input reads as it did. -/
def fnExactCodeNameUptoRow : OpenClaim := { program := "ytinhhdojalaeeaa", sum := "0a04795bf78738a7daa9ecc85181070ed6ecad0c6290cafa705b5d773d81c0d8", func := "loop.example/g00856/laws.FnExactCodeName", spec := "fnExactCodeName", apart := false, narrowed := true }
def FnExactCodeNameUptoSaid : Prop := fnExactCodeNameUptoRow.holds Try.pinned (OpenSpec.upto fnExactCodeNameSpec)

/-- 'laws.FnExactOtherBed', WHERE WHAT IT READS IS OF BULK AT MOST 1048576: true; the input reads as it did. -/
def fnExactOtherBedUptoRow : OpenClaim := { program := "ytinhhdojalaeeaa", sum := "0a04795bf78738a7daa9ecc85181070ed6ecad0c6290cafa705b5d773d81c0d8", func := "loop.example/g00856/laws.FnExactOtherBed", spec := "fnExactOtherBed", apart := false, narrowed := true }
def FnExactOtherBedUptoSaid : Prop := fnExactOtherBedUptoRow.holds Try.pinned (OpenSpec.upto fnExactOtherBedSpec)

/-- 'laws.FnExactIsName', WHERE WHAT IT READS IS OF BULK AT MOST 1048576: true; the input reads as it did. -/
def fnExactIsNameUptoRow : OpenClaim := { program := "ytinhhdojalaeeaa", sum := "0a04795bf78738a7daa9ecc85181070ed6ecad0c6290cafa705b5d773d81c0d8", func := "loop.example/g00856/laws.FnExactIsName", spec := "fnExactIsName", apart := false, narrowed := true }
def FnExactIsNameUptoSaid : Prop := fnExactIsNameUptoRow.holds Try.pinned (OpenSpec.upto fnExactIsNameSpec)

/-- 'laws.FnExactValidPermutation', WHERE WHAT IT READS IS OF BULK AT MOST 1048576: true; the input reads as it did. -/
def fnExactValidPermutationUptoRow : OpenClaim := { program := "ytinhhdojalaeeaa", sum := "0a04795bf78738a7daa9ecc85181070ed6ecad0c6290cafa705b5d773d81c0d8", func := "loop.example/g00856/laws.FnExactValidPermutation", spec := "fnExactValidPermutation", apart := false, narrowed := true }
def FnExactValidPermutationUptoSaid : Prop := fnExactValidPermutationUptoRow.holds Try.pinned (OpenSpec.upto fnExactValidPermutationSpec)

end Rows
end Go.Proofs.Ytinhhdojalaeeaa
