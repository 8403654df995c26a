/-
  No cell of these rows narrows 'for every input' (looked for: loops, veiled, ifaces, maps, wideKeys, modest, calm, conditions, laid).
  DERIVED. THE GIVEN ROWS OF THIS SEAT. 10 by the template 'for every input the law returns true; each argument reads behind the call as it read before'; 0 by the template 'total and deterministic' (their statements: YtmeccemnmkobbaaTotals.lean).
  GIVEN WITH THE SEED: the statements are not yours to turn. If you find one false, say at which input.
  Laid BY PROGRAM, IN A SANDBOX (cutbox-rows.mjs): the forced cells as the released guide's own fill.sh prints them over the translation 8219ac014a9dc8a8… (all of the seat's roots in one cut). By AI agents, Wed Nov 11 2026. No macro, syntax, notation, axiom, sorry.
-/
import Derived.Test.YtmeccemnmkobbaaChecked
import GoSem.Claim
import GoSem.ClaimJoined
import GoSem.ClaimMapViews
import Derived.JoinedTies
import Derived.KernelRfl
namespace Go.Proofs.Ytmeccemnmkobbaa
/- THE CELL 'sum', in the pinned program and in every row, IS THE sha256 OF THE DUMP (.gsa) THAT YtmeccemnmkobbaaProg.lean LOADS. Nothing in Lean hashes anything: it is a label: what it is worth is what the hold of that sum in a sandbox is worth. -/
noncomputable def Try.pinned : Pinned := { name := "ytmeccemnmkobbaa", sum := "8219ac014a9dc8a880c539ebc464a8dc31278f1bc6766b1c8135de8f8a8d1ca2", checked := Try.checked }
namespace Rows
def none {H : Type} : Left H := { results := [], args := [] }

/-- 'laws.FnExactValidNormal': WHATEVER THE INPUT: true; the input reads as it did. -/
def fnExactValidNormalSpec : ChangeSpec := { name := "fnExactValidNormal", fn := fun _ => fun
  | [d] => { results := [.lit (.bool true)], args := [d] }
  | _ => none }
def fnExactValidNormalRow : OpenClaim := { program := "ytmeccemnmkobbaa", sum := "8219ac014a9dc8a880c539ebc464a8dc31278f1bc6766b1c8135de8f8a8d1ca2", func := "loop.example/g00856/laws.FnExactValidNormal", spec := "fnExactValidNormal", apart := false }
def FnExactValidNormalSaid : Prop := fnExactValidNormalRow.holds Try.pinned (OpenSpec.ofChange fnExactValidNormalSpec)

/-- ITS FALSE NEIGHBOUR: 'it returns false'. Refute it at one input. -/
def fnExactValidNormalWrong : ChangeSpec := { name := "fnExactValidNormal", fn := fun _ => fun
  | [d] => { results := [.lit (.bool false)], args := [d] }
  | _ => none }
def FnExactValidNormalWrongFalsely : Prop := fnExactValidNormalRow.holds Try.pinned (OpenSpec.ofChange fnExactValidNormalWrong)

/-- 'laws.FnPermutationBraids': WHATEVER THE INPUT: true; the input reads as it did. -/
def fnPermutationBraidsSpec : ChangeSpec := { name := "fnPermutationBraids", fn := fun _ => fun
  | [d] => { results := [.lit (.bool true)], args := [d] }
  | _ => none }
def fnPermutationBraidsRow : OpenClaim := { program := "ytmeccemnmkobbaa", sum := "8219ac014a9dc8a880c539ebc464a8dc31278f1bc6766b1c8135de8f8a8d1ca2", func := "loop.example/g00856/laws.FnPermutationBraids", spec := "fnPermutationBraids", unfollowed := true, recurses := true, apart := false }
def FnPermutationBraidsSaid : Prop := fnPermutationBraidsRow.holds Try.pinned (OpenSpec.ofChange fnPermutationBraidsSpec)

/-- ITS FALSE NEIGHBOUR: 'it returns false'. Refute it at one input. -/
def fnPermutationBraidsWrong : ChangeSpec := { name := "fnPermutationBraids", fn := fun _ => fun
  | [d] => { results := [.lit (.bool false)], args := [d] }
  | _ => none }
def FnPermutationBraidsWrongFalsely : Prop := fnPermutationBraidsRow.holds Try.pinned (OpenSpec.ofChange fnPermutationBraidsWrong)

/-- 'laws.FnExactIsTrivial': WHATEVER THE INPUT: true; the input reads as it did. -/
def fnExactIsTrivialSpec : ChangeSpec := { name := "fnExactIsTrivial", fn := fun _ => fun
  | [d] => { results := [.lit (.bool true)], args := [d] }
  | _ => none }
def fnExactIsTrivialRow : OpenClaim := { program := "ytmeccemnmkobbaa", sum := "8219ac014a9dc8a880c539ebc464a8dc31278f1bc6766b1c8135de8f8a8d1ca2", func := "loop.example/g00856/laws.FnExactIsTrivial", spec := "fnExactIsTrivial", unfollowed := true, recurses := true, apart := false }
def FnExactIsTrivialSaid : Prop := fnExactIsTrivialRow.holds Try.pinned (OpenSpec.ofChange fnExactIsTrivialSpec)

/-- ITS FALSE NEIGHBOUR: 'it returns false'. Refute it at one input. -/
def fnExactIsTrivialWrong : ChangeSpec := { name := "fnExactIsTrivial", fn := fun _ => fun
  | [d] => { results := [.lit (.bool false)], args := [d] }
  | _ => none }
def FnExactIsTrivialWrongFalsely : Prop := fnExactIsTrivialRow.holds Try.pinned (OpenSpec.ofChange fnExactIsTrivialWrong)

/-- 'laws.FnExactEqualBraids': WHATEVER THE INPUT: true; the input reads as it did. -/
def fnExactEqualBraidsSpec : ChangeSpec := { name := "fnExactEqualBraids", fn := fun _ => fun
  | [d1, d2] => { results := [.lit (.bool true)], args := [d1, d2] }
  | _ => none }
def fnExactEqualBraidsRow : OpenClaim := { program := "ytmeccemnmkobbaa", sum := "8219ac014a9dc8a880c539ebc464a8dc31278f1bc6766b1c8135de8f8a8d1ca2", func := "loop.example/g00856/laws.FnExactEqualBraids", spec := "fnExactEqualBraids", unfollowed := true, recurses := true, apart := false }
def FnExactEqualBraidsSaid : Prop := fnExactEqualBraidsRow.holds Try.pinned (OpenSpec.ofChange fnExactEqualBraidsSpec)

/-- ITS FALSE NEIGHBOUR: 'it returns false'. Refute it at one input. -/
def fnExactEqualBraidsWrong : ChangeSpec := { name := "fnExactEqualBraids", fn := fun _ => fun
  | [d1, d2] => { results := [.lit (.bool false)], args := [d1, d2] }
  | _ => none }
def FnExactEqualBraidsWrongFalsely : Prop := fnExactEqualBraidsRow.holds Try.pinned (OpenSpec.ofChange fnExactEqualBraidsWrong)

/-- 'laws.FnExactBraidOfNormal': WHATEVER THE INPUT: true; the input reads as it did. -/
def fnExactBraidOfNormalSpec : ChangeSpec := { name := "fnExactBraidOfNormal", fn := fun _ => fun
  | [d] => { results := [.lit (.bool true)], args := [d] }
  | _ => none }
def fnExactBraidOfNormalRow : OpenClaim := { program := "ytmeccemnmkobbaa", sum := "8219ac014a9dc8a880c539ebc464a8dc31278f1bc6766b1c8135de8f8a8d1ca2", func := "loop.example/g00856/laws.FnExactBraidOfNormal", spec := "fnExactBraidOfNormal", apart := false }
def FnExactBraidOfNormalSaid : Prop := fnExactBraidOfNormalRow.holds Try.pinned (OpenSpec.ofChange fnExactBraidOfNormalSpec)

/-- ITS FALSE NEIGHBOUR: 'it returns false'. Refute it at one input. -/
def fnExactBraidOfNormalWrong : ChangeSpec := { name := "fnExactBraidOfNormal", fn := fun _ => fun
  | [d] => { results := [.lit (.bool false)], args := [d] }
  | _ => none }
def FnExactBraidOfNormalWrongFalsely : Prop := fnExactBraidOfNormalRow.holds Try.pinned (OpenSpec.ofChange fnExactBraidOfNormalWrong)

/-- 'laws.FnDouble': WHATEVER THE INPUT: true; the input reads as it did. -/
def fnDoubleSpec : ChangeSpec := { name := "fnDouble", fn := fun _ => fun
  | [d1, d2] => { results := [.lit (.bool true)], args := [d1, d2] }
  | _ => none }
def fnDoubleRow : OpenClaim := { program := "ytmeccemnmkobbaa", sum := "8219ac014a9dc8a880c539ebc464a8dc31278f1bc6766b1c8135de8f8a8d1ca2", func := "loop.example/g00856/laws.FnDouble", spec := "fnDouble", unfollowed := true, recurses := true, apart := false }
def FnDoubleSaid : Prop := fnDoubleRow.holds Try.pinned (OpenSpec.ofChange fnDoubleSpec)

/-- ITS FALSE NEIGHBOUR: 'it returns false'. Refute it at one input. -/
def fnDoubleWrong : ChangeSpec := { name := "fnDouble", fn := fun _ => fun
  | [d1, d2] => { results := [.lit (.bool false)], args := [d1, d2] }
  | _ => none }
def FnDoubleWrongFalsely : Prop := fnDoubleRow.holds Try.pinned (OpenSpec.ofChange fnDoubleWrong)

/-- 'laws.FnExactNormalForm': WHATEVER THE INPUT: true; the input reads as it did. -/
def fnExactNormalFormSpec : ChangeSpec := { name := "fnExactNormalForm", fn := fun _ => fun
  | [d] => { results := [.lit (.bool true)], args := [d] }
  | _ => none }
def fnExactNormalFormRow : OpenClaim := { program := "ytmeccemnmkobbaa", sum := "8219ac014a9dc8a880c539ebc464a8dc31278f1bc6766b1c8135de8f8a8d1ca2", func := "loop.example/g00856/laws.FnExactNormalForm", spec := "fnExactNormalForm", unfollowed := true, recurses := true, apart := false }
def FnExactNormalFormSaid : Prop := fnExactNormalFormRow.holds Try.pinned (OpenSpec.ofChange fnExactNormalFormSpec)

/-- ITS FALSE NEIGHBOUR: 'it returns false'. Refute it at one input. -/
def fnExactNormalFormWrong : ChangeSpec := { name := "fnExactNormalForm", fn := fun _ => fun
  | [d] => { results := [.lit (.bool false)], args := [d] }
  | _ => none }
def FnExactNormalFormWrongFalsely : Prop := fnExactNormalFormRow.holds Try.pinned (OpenSpec.ofChange fnExactNormalFormWrong)

/-- 'laws.FnExactJoinNormals': WHATEVER THE INPUT: true; the input reads as it did. -/
def fnExactJoinNormalsSpec : ChangeSpec := { name := "fnExactJoinNormals", fn := fun _ => fun
  | [d1, d2] => { results := [.lit (.bool true)], args := [d1, d2] }
  | _ => none }
def fnExactJoinNormalsRow : OpenClaim := { program := "ytmeccemnmkobbaa", sum := "8219ac014a9dc8a880c539ebc464a8dc31278f1bc6766b1c8135de8f8a8d1ca2", func := "loop.example/g00856/laws.FnExactJoinNormals", spec := "fnExactJoinNormals", apart := false }
def FnExactJoinNormalsSaid : Prop := fnExactJoinNormalsRow.holds Try.pinned (OpenSpec.ofChange fnExactJoinNormalsSpec)

/-- ITS FALSE NEIGHBOUR: 'it returns false'. Refute it at one input. -/
def fnExactJoinNormalsWrong : ChangeSpec := { name := "fnExactJoinNormals", fn := fun _ => fun
  | [d1, d2] => { results := [.lit (.bool false)], args := [d1, d2] }
  | _ => none }
def FnExactJoinNormalsWrongFalsely : Prop := fnExactJoinNormalsRow.holds Try.pinned (OpenSpec.ofChange fnExactJoinNormalsWrong)

/-- 'laws.FnNormal': WHATEVER THE INPUT: true; the input reads as it did. -/
def fnNormalSpec : ChangeSpec := { name := "fnNormal", fn := fun _ => fun
  | [d] => { results := [.lit (.bool true)], args := [d] }
  | _ => none }
def fnNormalRow : OpenClaim := { program := "ytmeccemnmkobbaa", sum := "8219ac014a9dc8a880c539ebc464a8dc31278f1bc6766b1c8135de8f8a8d1ca2", func := "loop.example/g00856/laws.FnNormal", spec := "fnNormal", unfollowed := true, recurses := true, apart := false }
def FnNormalSaid : Prop := fnNormalRow.holds Try.pinned (OpenSpec.ofChange fnNormalSpec)

/-- ITS FALSE NEIGHBOUR: 'it returns false'. Refute it at one input. -/
def fnNormalWrong : ChangeSpec := { name := "fnNormal", fn := fun _ => fun
  | [d] => { results := [.lit (.bool false)], args := [d] }
  | _ => none }
def FnNormalWrongFalsely : Prop := fnNormalRow.holds Try.pinned (OpenSpec.ofChange fnNormalWrong)

/-- 'laws.FnNormalUnique': WHATEVER THE INPUT: true; the input reads as it did. -/
def fnNormalUniqueSpec : ChangeSpec := { name := "fnNormalUnique", fn := fun _ => fun
  | [d] => { results := [.lit (.bool true)], args := [d] }
  | _ => none }
def fnNormalUniqueRow : OpenClaim := { program := "ytmeccemnmkobbaa", sum := "8219ac014a9dc8a880c539ebc464a8dc31278f1bc6766b1c8135de8f8a8d1ca2", func := "loop.example/g00856/laws.FnNormalUnique", spec := "fnNormalUnique", unfollowed := true, recurses := true, apart := false }
def FnNormalUniqueSaid : Prop := fnNormalUniqueRow.holds Try.pinned (OpenSpec.ofChange fnNormalUniqueSpec)

/-- ITS FALSE NEIGHBOUR: 'it returns false'. Refute it at one input. -/
def fnNormalUniqueWrong : ChangeSpec := { name := "fnNormalUnique", fn := fun _ => fun
  | [d] => { results := [.lit (.bool false)], args := [d] }
  | _ => none }
def FnNormalUniqueWrongFalsely : Prop := fnNormalUniqueRow.holds Try.pinned (OpenSpec.ofChange fnNormalUniqueWrong)

/- THE SECOND FORM. 'bulk': how many values and letters a reading holds, each counted each time it is reached (what is shared counts as often as it is met; a slice's spare places count too). A statement '..UptoSaid' is the law's where the arguments, and the package variables that the reading takes, are together of bulk at most 1048576: NARROWER than '..Said'. Prove '..Said' where nothing that the law and all that it calls make is longer than what came in: it says more and counts as full. Else prove '..UptoSaid'. A law counts once. -/
mutual
def uptoBulk {H : Type} : DataW H → Nat
  | .lit (.string bytes) => bytes.length + 1
  | .lit _ => 1
  | .nil => 1
  | .ptr d => uptoBulk d + 1
  | .slice elems spare => uptoBulkAll elems + uptoBulkAll spare + 1
  | .agg parts => uptoBulkAll parts + 1
  | .iface _ d => uptoBulk d + 1
  | .map entries => uptoBulkEntries entries + 1
  | .held _ => 1
def uptoBulkAll {H : Type} : List (DataW H) → Nat
  | [] => 0
  | d :: r => uptoBulk d + uptoBulkAll r
def uptoBulkEntries {H : Type} : List (Lit × DataW H) → Nat
  | [] => 0
  | x :: r => uptoBulkEntry x + uptoBulkEntries r
def uptoBulkEntry {H : Type} : Lit × DataW H → Nat
  | (.string bytes, d) => bytes.length + uptoBulk d + 1
  | (_, d) => uptoBulk d + 1
 end
def uptoSmall : (H : Type) → List (DataW H) → Bool := fun _ ds => decide (uptoBulkAll ds ≤ 1048576)
def OpenSpec.upto (s : _root_.Go.ChangeSpec) : _root_.Go.OpenSpec := { _root_.Go.OpenSpec.ofChange s with cond := some uptoSmall }

/-- 'laws.FnExactValidNormal', WHERE WHAT IT READS IS OF BULK AT MOST 1048576: true; the input reads as it did. -/
def fnExactValidNormalUptoRow : OpenClaim := { program := "ytmeccemnmkobbaa", sum := "8219ac014a9dc8a880c539ebc464a8dc31278f1bc6766b1c8135de8f8a8d1ca2", func := "loop.example/g00856/laws.FnExactValidNormal", spec := "fnExactValidNormal", apart := false, narrowed := true }
def FnExactValidNormalUptoSaid : Prop := fnExactValidNormalUptoRow.holds Try.pinned (OpenSpec.upto fnExactValidNormalSpec)

/-- 'laws.FnPermutationBraids', WHERE WHAT IT READS IS OF BULK AT MOST 1048576: true; the input reads as it did. -/
def fnPermutationBraidsUptoRow : OpenClaim := { program := "ytmeccemnmkobbaa", sum := "8219ac014a9dc8a880c539ebc464a8dc31278f1bc6766b1c8135de8f8a8d1ca2", func := "loop.example/g00856/laws.FnPermutationBraids", spec := "fnPermutationBraids", unfollowed := true, recurses := true, apart := false, narrowed := true }
def FnPermutationBraidsUptoSaid : Prop := fnPermutationBraidsUptoRow.holds Try.pinned (OpenSpec.upto fnPermutationBraidsSpec)

/-- 'laws.FnExactIsTrivial', WHERE WHAT IT READS IS OF BULK AT MOST 1048576: true; the input reads as it did. -/
def fnExactIsTrivialUptoRow : OpenClaim := { program := "ytmeccemnmkobbaa", sum := "8219ac014a9dc8a880c539ebc464a8dc31278f1bc6766b1c8135de8f8a8d1ca2", func := "loop.example/g00856/laws.FnExactIsTrivial", spec := "fnExactIsTrivial", unfollowed := true, recurses := true, apart := false, narrowed := true }
def FnExactIsTrivialUptoSaid : Prop := fnExactIsTrivialUptoRow.holds Try.pinned (OpenSpec.upto fnExactIsTrivialSpec)

/-- 'laws.FnExactEqualBraids', WHERE WHAT IT READS IS OF BULK AT MOST 1048576: true; the input reads as it did. -/
def fnExactEqualBraidsUptoRow : OpenClaim := { program := "ytmeccemnmkobbaa", sum := "8219ac014a9dc8a880c539ebc464a8dc31278f1bc6766b1c8135de8f8a8d1ca2", func := "loop.example/g00856/laws.FnExactEqualBraids", spec := "fnExactEqualBraids", unfollowed := true, recurses := true, apart := false, narrowed := true }
def FnExactEqualBraidsUptoSaid : Prop := fnExactEqualBraidsUptoRow.holds Try.pinned (OpenSpec.upto fnExactEqualBraidsSpec)

/-- 'laws.FnExactBraidOfNormal', WHERE WHAT IT READS IS OF BULK AT MOST 1048576: true; the input reads as it did. -/
def fnExactBraidOfNormalUptoRow : OpenClaim := { program := "ytmeccemnmkobbaa", sum := "8219ac014a9dc8a880c539ebc464a8dc31278f1bc6766b1c8135de8f8a8d1ca2", func := "loop.example/g00856/laws.FnExactBraidOfNormal", spec := "fnExactBraidOfNormal", apart := false, narrowed := true }
def FnExactBraidOfNormalUptoSaid : Prop := fnExactBraidOfNormalUptoRow.holds Try.pinned (OpenSpec.upto fnExactBraidOfNormalSpec)

/-- 'laws.FnDouble', WHERE WHAT IT READS IS OF BULK AT MOST 1048576: true; the input reads as it did. -/
def fnDoubleUptoRow : OpenClaim := { program := "ytmeccemnmkobbaa", sum := "8219ac014a9dc8a880c539ebc464a8dc31278f1bc6766b1c8135de8f8a8d1ca2", func := "loop.example/g00856/laws.FnDouble", spec := "fnDouble", unfollowed := true, recurses := true, apart := false, narrowed := true }
def FnDoubleUptoSaid : Prop := fnDoubleUptoRow.holds Try.pinned (OpenSpec.upto fnDoubleSpec)

/-- 'laws.FnExactNormalForm', WHERE WHAT IT READS IS OF BULK AT MOST 1048576: true; the input reads as it did. -/
def fnExactNormalFormUptoRow : OpenClaim := { program := "ytmeccemnmkobbaa", sum := "8219ac014a9dc8a880c539ebc464a8dc31278f1bc6766b1c8135de8f8a8d1ca2", func := "loop.example/g00856/laws.FnExactNormalForm", spec := "fnExactNormalForm", unfollowed := true, recurses := true, apart := false, narrowed := true }
def FnExactNormalFormUptoSaid : Prop := fnExactNormalFormUptoRow.holds Try.pinned (OpenSpec.upto fnExactNormalFormSpec)

/-- 'laws.FnExactJoinNormals', WHERE WHAT IT READS IS OF BULK AT MOST 1048576: true; the input reads as it did. -/
def fnExactJoinNormalsUptoRow : OpenClaim := { program := "ytmeccemnmkobbaa", sum := "8219ac014a9dc8a880c539ebc464a8dc31278f1bc6766b1c8135de8f8a8d1ca2", func := "loop.example/g00856/laws.FnExactJoinNormals", spec := "fnExactJoinNormals", apart := false, narrowed := true }
def FnExactJoinNormalsUptoSaid : Prop := fnExactJoinNormalsUptoRow.holds Try.pinned (OpenSpec.upto fnExactJoinNormalsSpec)

/-- 'laws.FnNormal', WHERE WHAT IT READS IS OF BULK AT MOST 1048576: true; the input reads as it did. -/
def fnNormalUptoRow : OpenClaim := { program := "ytmeccemnmkobbaa", sum := "8219ac014a9dc8a880c539ebc464a8dc31278f1bc6766b1c8135de8f8a8d1ca2", func := "loop.example/g00856/laws.FnNormal", spec := "fnNormal", unfollowed := true, recurses := true, apart := false, narrowed := true }
def FnNormalUptoSaid : Prop := fnNormalUptoRow.holds Try.pinned (OpenSpec.upto fnNormalSpec)

/-- 'laws.FnNormalUnique', WHERE WHAT IT READS IS OF BULK AT MOST 1048576: true; the input reads as it did. -/
def fnNormalUniqueUptoRow : OpenClaim := { program := "ytmeccemnmkobbaa", sum := "8219ac014a9dc8a880c539ebc464a8dc31278f1bc6766b1c8135de8f8a8d1ca2", func := "loop.example/g00856/laws.FnNormalUnique", spec := "fnNormalUnique", unfollowed := true, recurses := true, apart := false, narrowed := true }
def FnNormalUniqueUptoSaid : Prop := fnNormalUniqueUptoRow.holds Try.pinned (OpenSpec.upto fnNormalUniqueSpec)

end Rows
end Go.Proofs.Ytmeccemnmkobbaa
