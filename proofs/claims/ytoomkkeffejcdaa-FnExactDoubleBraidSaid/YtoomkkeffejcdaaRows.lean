/-
  No cell of these rows narrows 'for every input' (looked for: loops, veiled, ifaces, maps, wideKeys, modest, calm, conditions, laid).
  DERIVED. THE GIVEN ROWS OF THIS SEAT. 11 by the template 'for every input the law returns true; each argument reads behind the call as it read before'; 0 by the template 'total and deterministic' (their statements: YtoomkkeffejcdaaTotals.lean).
  GIVEN WITH THE SEED: the statements are not yours to turn. If you find one false, say at which input.
  Laid BY PROGRAM, IN A SANDBOX (cutbox-rows.mjs): the forced cells as the released guide's own fill.sh prints them over the translation b330d70e28302652… (all of the seat's roots in one cut). By AI agents, Wed Nov 11 2026. No macro, syntax, notation, axiom, sorry.
-/
import Derived.Test.YtoomkkeffejcdaaChecked
import GoSem.Claim
import GoSem.ClaimJoined
import GoSem.ClaimMapViews
import Derived.JoinedTies
import Derived.KernelRfl
namespace Go.Proofs.Ytoomkkeffejcdaa
/- THE CELL 'sum', in the pinned program and in every row, IS THE sha256 OF THE DUMP (.gsa) THAT YtoomkkeffejcdaaProg.lean LOADS. Nothing in Lean hashes anything: it is a label: what it is worth is what the hold of that sum in a sandbox is worth. -/
noncomputable def Try.pinned : Pinned := { name := "ytoomkkeffejcdaa", sum := "b330d70e283026524633b1d6925991512593dbb58751925b2439f5a5424be0cd", checked := Try.checked }
namespace Rows
def none {H : Type} : Left H := { results := [], args := [] }

/-- 'laws.FnExactSameBraid': WHATEVER THE INPUT: true; the input reads as it did. -/
def fnExactSameBraidSpec : ChangeSpec := { name := "fnExactSameBraid", fn := fun _ => fun
  | [d1, d2] => { results := [.lit (.bool true)], args := [d1, d2] }
  | _ => none }
def fnExactSameBraidRow : OpenClaim := { program := "ytoomkkeffejcdaa", sum := "b330d70e283026524633b1d6925991512593dbb58751925b2439f5a5424be0cd", func := "loop.example/g00856/laws.FnExactSameBraid", spec := "fnExactSameBraid", apart := false }
def FnExactSameBraidSaid : Prop := fnExactSameBraidRow.holds Try.pinned (OpenSpec.ofChange fnExactSameBraidSpec)

/-- ITS FALSE NEIGHBOUR: 'it returns false'. Refute it at one input. -/
def fnExactSameBraidWrong : ChangeSpec := { name := "fnExactSameBraid", fn := fun _ => fun
  | [d1, d2] => { results := [.lit (.bool false)], args := [d1, d2] }
  | _ => none }
def FnExactSameBraidWrongFalsely : Prop := fnExactSameBraidRow.holds Try.pinned (OpenSpec.ofChange fnExactSameBraidWrong)

/-- 'laws.FnExactValidBraid': WHATEVER THE INPUT: true; the input reads as it did. -/
def fnExactValidBraidSpec : ChangeSpec := { name := "fnExactValidBraid", fn := fun _ => fun
  | [d] => { results := [.lit (.bool true)], args := [d] }
  | _ => none }
def fnExactValidBraidRow : OpenClaim := { program := "ytoomkkeffejcdaa", sum := "b330d70e283026524633b1d6925991512593dbb58751925b2439f5a5424be0cd", func := "loop.example/g00856/laws.FnExactValidBraid", spec := "fnExactValidBraid", unfollowed := true, recurses := true, apart := false }
def FnExactValidBraidSaid : Prop := fnExactValidBraidRow.holds Try.pinned (OpenSpec.ofChange fnExactValidBraidSpec)

/-- ITS FALSE NEIGHBOUR: 'it returns false'. Refute it at one input. -/
def fnExactValidBraidWrong : ChangeSpec := { name := "fnExactValidBraid", fn := fun _ => fun
  | [d] => { results := [.lit (.bool false)], args := [d] }
  | _ => none }
def FnExactValidBraidWrongFalsely : Prop := fnExactValidBraidRow.holds Try.pinned (OpenSpec.ofChange fnExactValidBraidWrong)

/-- 'laws.FnExactExponentSum': WHATEVER THE INPUT: true; the input reads as it did. -/
def fnExactExponentSumSpec : ChangeSpec := { name := "fnExactExponentSum", fn := fun _ => fun
  | [d] => { results := [.lit (.bool true)], args := [d] }
  | _ => none }
def fnExactExponentSumRow : OpenClaim := { program := "ytoomkkeffejcdaa", sum := "b330d70e283026524633b1d6925991512593dbb58751925b2439f5a5424be0cd", func := "loop.example/g00856/laws.FnExactExponentSum", spec := "fnExactExponentSum", unfollowed := true, recurses := true, apart := false }
def FnExactExponentSumSaid : Prop := fnExactExponentSumRow.holds Try.pinned (OpenSpec.ofChange fnExactExponentSumSpec)

/-- ITS FALSE NEIGHBOUR: 'it returns false'. Refute it at one input. -/
def fnExactExponentSumWrong : ChangeSpec := { name := "fnExactExponentSum", fn := fun _ => fun
  | [d] => { results := [.lit (.bool false)], args := [d] }
  | _ => none }
def FnExactExponentSumWrongFalsely : Prop := fnExactExponentSumRow.holds Try.pinned (OpenSpec.ofChange fnExactExponentSumWrong)

/-- 'laws.FnExactInvertBraid': WHATEVER THE INPUT: true; the input reads as it did. -/
def fnExactInvertBraidSpec : ChangeSpec := { name := "fnExactInvertBraid", fn := fun _ => fun
  | [d] => { results := [.lit (.bool true)], args := [d] }
  | _ => none }
def fnExactInvertBraidRow : OpenClaim := { program := "ytoomkkeffejcdaa", sum := "b330d70e283026524633b1d6925991512593dbb58751925b2439f5a5424be0cd", func := "loop.example/g00856/laws.FnExactInvertBraid", spec := "fnExactInvertBraid", unfollowed := true, recurses := true, apart := false }
def FnExactInvertBraidSaid : Prop := fnExactInvertBraidRow.holds Try.pinned (OpenSpec.ofChange fnExactInvertBraidSpec)

/-- ITS FALSE NEIGHBOUR: 'it returns false'. Refute it at one input. -/
def fnExactInvertBraidWrong : ChangeSpec := { name := "fnExactInvertBraid", fn := fun _ => fun
  | [d] => { results := [.lit (.bool false)], args := [d] }
  | _ => none }
def FnExactInvertBraidWrongFalsely : Prop := fnExactInvertBraidRow.holds Try.pinned (OpenSpec.ofChange fnExactInvertBraidWrong)

/-- 'laws.FnExactMirrorBraid': WHATEVER THE INPUT: true; the input reads as it did. -/
def fnExactMirrorBraidSpec : ChangeSpec := { name := "fnExactMirrorBraid", fn := fun _ => fun
  | [d] => { results := [.lit (.bool true)], args := [d] }
  | _ => none }
def fnExactMirrorBraidRow : OpenClaim := { program := "ytoomkkeffejcdaa", sum := "b330d70e283026524633b1d6925991512593dbb58751925b2439f5a5424be0cd", func := "loop.example/g00856/laws.FnExactMirrorBraid", spec := "fnExactMirrorBraid", unfollowed := true, recurses := true, apart := false }
def FnExactMirrorBraidSaid : Prop := fnExactMirrorBraidRow.holds Try.pinned (OpenSpec.ofChange fnExactMirrorBraidSpec)

/-- ITS FALSE NEIGHBOUR: 'it returns false'. Refute it at one input. -/
def fnExactMirrorBraidWrong : ChangeSpec := { name := "fnExactMirrorBraid", fn := fun _ => fun
  | [d] => { results := [.lit (.bool false)], args := [d] }
  | _ => none }
def FnExactMirrorBraidWrongFalsely : Prop := fnExactMirrorBraidRow.holds Try.pinned (OpenSpec.ofChange fnExactMirrorBraidWrong)

/-- 'laws.FnExactReduceBraid': WHATEVER THE INPUT: true; the input reads as it did. -/
def fnExactReduceBraidSpec : ChangeSpec := { name := "fnExactReduceBraid", fn := fun _ => fun
  | [d] => { results := [.lit (.bool true)], args := [d] }
  | _ => none }
def fnExactReduceBraidRow : OpenClaim := { program := "ytoomkkeffejcdaa", sum := "b330d70e283026524633b1d6925991512593dbb58751925b2439f5a5424be0cd", func := "loop.example/g00856/laws.FnExactReduceBraid", spec := "fnExactReduceBraid", unfollowed := true, recurses := true, apart := false }
def FnExactReduceBraidSaid : Prop := fnExactReduceBraidRow.holds Try.pinned (OpenSpec.ofChange fnExactReduceBraidSpec)

/-- ITS FALSE NEIGHBOUR: 'it returns false'. Refute it at one input. -/
def fnExactReduceBraidWrong : ChangeSpec := { name := "fnExactReduceBraid", fn := fun _ => fun
  | [d] => { results := [.lit (.bool false)], args := [d] }
  | _ => none }
def FnExactReduceBraidWrongFalsely : Prop := fnExactReduceBraidRow.holds Try.pinned (OpenSpec.ofChange fnExactReduceBraidWrong)

/-- 'laws.FnExactWidenBraid': WHATEVER THE INPUT: true; the input reads as it did. -/
def fnExactWidenBraidSpec : ChangeSpec := { name := "fnExactWidenBraid", fn := fun _ => fun
  | [d1, d2, d3] => { results := [.lit (.bool true)], args := [d1, d2, d3] }
  | _ => none }
def fnExactWidenBraidRow : OpenClaim := { program := "ytoomkkeffejcdaa", sum := "b330d70e283026524633b1d6925991512593dbb58751925b2439f5a5424be0cd", func := "loop.example/g00856/laws.FnExactWidenBraid", spec := "fnExactWidenBraid", unfollowed := true, recurses := true, apart := false }
def FnExactWidenBraidSaid : Prop := fnExactWidenBraidRow.holds Try.pinned (OpenSpec.ofChange fnExactWidenBraidSpec)

/-- ITS FALSE NEIGHBOUR: 'it returns false'. Refute it at one input. -/
def fnExactWidenBraidWrong : ChangeSpec := { name := "fnExactWidenBraid", fn := fun _ => fun
  | [d1, d2, d3] => { results := [.lit (.bool false)], args := [d1, d2, d3] }
  | _ => none }
def FnExactWidenBraidWrongFalsely : Prop := fnExactWidenBraidRow.holds Try.pinned (OpenSpec.ofChange fnExactWidenBraidWrong)

/-- 'laws.FnExactJoinBraids': WHATEVER THE INPUT: true; the input reads as it did. -/
def fnExactJoinBraidsSpec : ChangeSpec := { name := "fnExactJoinBraids", fn := fun _ => fun
  | [d1, d2] => { results := [.lit (.bool true)], args := [d1, d2] }
  | _ => none }
def fnExactJoinBraidsRow : OpenClaim := { program := "ytoomkkeffejcdaa", sum := "b330d70e283026524633b1d6925991512593dbb58751925b2439f5a5424be0cd", func := "loop.example/g00856/laws.FnExactJoinBraids", spec := "fnExactJoinBraids", unfollowed := true, recurses := true, apart := false }
def FnExactJoinBraidsSaid : Prop := fnExactJoinBraidsRow.holds Try.pinned (OpenSpec.ofChange fnExactJoinBraidsSpec)

/-- ITS FALSE NEIGHBOUR: 'it returns false'. Refute it at one input. -/
def fnExactJoinBraidsWrong : ChangeSpec := { name := "fnExactJoinBraids", fn := fun _ => fun
  | [d1, d2] => { results := [.lit (.bool false)], args := [d1, d2] }
  | _ => none }
def FnExactJoinBraidsWrongFalsely : Prop := fnExactJoinBraidsRow.holds Try.pinned (OpenSpec.ofChange fnExactJoinBraidsWrong)

/-- 'laws.FnExactBraidPermutation': WHATEVER THE INPUT: true; the input reads as it did. -/
def fnExactBraidPermutationSpec : ChangeSpec := { name := "fnExactBraidPermutation", fn := fun _ => fun
  | [d] => { results := [.lit (.bool true)], args := [d] }
  | _ => none }
def fnExactBraidPermutationRow : OpenClaim := { program := "ytoomkkeffejcdaa", sum := "b330d70e283026524633b1d6925991512593dbb58751925b2439f5a5424be0cd", func := "loop.example/g00856/laws.FnExactBraidPermutation", spec := "fnExactBraidPermutation", unfollowed := true, recurses := true, apart := false }
def FnExactBraidPermutationSaid : Prop := fnExactBraidPermutationRow.holds Try.pinned (OpenSpec.ofChange fnExactBraidPermutationSpec)

/-- ITS FALSE NEIGHBOUR: 'it returns false'. Refute it at one input. -/
def fnExactBraidPermutationWrong : ChangeSpec := { name := "fnExactBraidPermutation", fn := fun _ => fun
  | [d] => { results := [.lit (.bool false)], args := [d] }
  | _ => none }
def FnExactBraidPermutationWrongFalsely : Prop := fnExactBraidPermutationRow.holds Try.pinned (OpenSpec.ofChange fnExactBraidPermutationWrong)

/-- 'laws.FnExactDoubleBraid': WHATEVER THE INPUT: true; the input reads as it did. -/
def fnExactDoubleBraidSpec : ChangeSpec := { name := "fnExactDoubleBraid", fn := fun _ => fun
  | [d1, d2] => { results := [.lit (.bool true)], args := [d1, d2] }
  | _ => none }
def fnExactDoubleBraidRow : OpenClaim := { program := "ytoomkkeffejcdaa", sum := "b330d70e283026524633b1d6925991512593dbb58751925b2439f5a5424be0cd", func := "loop.example/g00856/laws.FnExactDoubleBraid", spec := "fnExactDoubleBraid", unfollowed := true, recurses := true, apart := false }
def FnExactDoubleBraidSaid : Prop := fnExactDoubleBraidRow.holds Try.pinned (OpenSpec.ofChange fnExactDoubleBraidSpec)

/-- ITS FALSE NEIGHBOUR: 'it returns false'. Refute it at one input. -/
def fnExactDoubleBraidWrong : ChangeSpec := { name := "fnExactDoubleBraid", fn := fun _ => fun
  | [d1, d2] => { results := [.lit (.bool false)], args := [d1, d2] }
  | _ => none }
def FnExactDoubleBraidWrongFalsely : Prop := fnExactDoubleBraidRow.holds Try.pinned (OpenSpec.ofChange fnExactDoubleBraidWrong)

/-- 'laws.FnExactSameNormal': WHATEVER THE INPUT: true; the input reads as it did. -/
def fnExactSameNormalSpec : ChangeSpec := { name := "fnExactSameNormal", fn := fun _ => fun
  | [d1, d2] => { results := [.lit (.bool true)], args := [d1, d2] }
  | _ => none }
def fnExactSameNormalRow : OpenClaim := { program := "ytoomkkeffejcdaa", sum := "b330d70e283026524633b1d6925991512593dbb58751925b2439f5a5424be0cd", func := "loop.example/g00856/laws.FnExactSameNormal", spec := "fnExactSameNormal", unfollowed := true, recurses := true, apart := false }
def FnExactSameNormalSaid : Prop := fnExactSameNormalRow.holds Try.pinned (OpenSpec.ofChange fnExactSameNormalSpec)

/-- ITS FALSE NEIGHBOUR: 'it returns false'. Refute it at one input. -/
def fnExactSameNormalWrong : ChangeSpec := { name := "fnExactSameNormal", fn := fun _ => fun
  | [d1, d2] => { results := [.lit (.bool false)], args := [d1, d2] }
  | _ => none }
def FnExactSameNormalWrongFalsely : Prop := fnExactSameNormalRow.holds Try.pinned (OpenSpec.ofChange fnExactSameNormalWrong)

/- THE SECOND FORM. 'bulk': how many values and letters a reading holds, each counted each time it is reached (what is shared counts as often as it is met; a slice's spare places count too). A statement '..UptoSaid' is the law's where the arguments, and the package variables that the reading takes, are together of bulk at most 1048576: NARROWER than '..Said'. Prove '..Said' where nothing that the law and all that it calls make is longer than what came in: it says more and counts as full. Else prove '..UptoSaid'. A law counts once. -/
mutual
def uptoBulk {H : Type} : DataW H → Nat
  | .lit (.string bytes) => bytes.length + 1
  | .lit _ => 1
  | .nil => 1
  | .ptr d => uptoBulk d + 1
  | .slice elems spare => uptoBulkAll elems + uptoBulkAll spare + 1
  | .agg parts => uptoBulkAll parts + 1
  | .iface _ d => uptoBulk d + 1
  | .map entries => uptoBulkEntries entries + 1
  | .held _ => 1
def uptoBulkAll {H : Type} : List (DataW H) → Nat
  | [] => 0
  | d :: r => uptoBulk d + uptoBulkAll r
def uptoBulkEntries {H : Type} : List (Lit × DataW H) → Nat
  | [] => 0
  | x :: r => uptoBulkEntry x + uptoBulkEntries r
def uptoBulkEntry {H : Type} : Lit × DataW H → Nat
  | (.string bytes, d) => bytes.length + uptoBulk d + 1
  | (_, d) => uptoBulk d + 1
 end
def uptoSmall : (H : Type) → List (DataW H) → Bool := fun _ ds => decide (uptoBulkAll ds ≤ 1048576)
def OpenSpec.upto (s : _root_.Go.ChangeSpec) : _root_.Go.OpenSpec := { _root_.Go.OpenSpec.ofChange s with cond := some uptoSmall }

/-- 'laws.FnExactSameBraid', WHERE WHAT IT READS IS OF BULK AT MOST 1048576: true; the input reads as it did. -/
def fnExactSameBraidUptoRow : OpenClaim := { program := "ytoomkkeffejcdaa", sum := "b330d70e283026524633b1d6925991512593dbb58751925b2439f5a5424be0cd", func := "loop.example/g00856/laws.FnExactSameBraid", spec := "fnExactSameBraid", apart := false, narrowed := true }
def FnExactSameBraidUptoSaid : Prop := fnExactSameBraidUptoRow.holds Try.pinned (OpenSpec.upto fnExactSameBraidSpec)

/-- 'laws.FnExactValidBraid', WHERE WHAT IT READS IS OF BULK AT MOST 1048576: true; the input reads as it did. -/
def fnExactValidBraidUptoRow : OpenClaim := { program := "ytoomkkeffejcdaa", sum := "b330d70e283026524633b1d6925991512593dbb58751925b2439f5a5424be0cd", func := "loop.example/g00856/laws.FnExactValidBraid", spec := "fnExactValidBraid", unfollowed := true, recurses := true, apart := false, narrowed := true }
def FnExactValidBraidUptoSaid : Prop := fnExactValidBraidUptoRow.holds Try.pinned (OpenSpec.upto fnExactValidBraidSpec)

/-- 'laws.FnExactExponentSum', WHERE WHAT IT READS IS OF BULK AT MOST 1048576: true; the input reads as it did. -/
def fnExactExponentSumUptoRow : OpenClaim := { program := "ytoomkkeffejcdaa", sum := "b330d70e283026524633b1d6925991512593dbb58751925b2439f5a5424be0cd", func := "loop.example/g00856/laws.FnExactExponentSum", spec := "fnExactExponentSum", unfollowed := true, recurses := true, apart := false, narrowed := true }
def FnExactExponentSumUptoSaid : Prop := fnExactExponentSumUptoRow.holds Try.pinned (OpenSpec.upto fnExactExponentSumSpec)

/-- 'laws.FnExactInvertBraid', WHERE WHAT IT READS IS OF BULK AT MOST 1048576: true; the input reads as it did. -/
def fnExactInvertBraidUptoRow : OpenClaim := { program := "ytoomkkeffejcdaa", sum := "b330d70e283026524633b1d6925991512593dbb58751925b2439f5a5424be0cd", func := "loop.example/g00856/laws.FnExactInvertBraid", spec := "fnExactInvertBraid", unfollowed := true, recurses := true, apart := false, narrowed := true }
def FnExactInvertBraidUptoSaid : Prop := fnExactInvertBraidUptoRow.holds Try.pinned (OpenSpec.upto fnExactInvertBraidSpec)

/-- 'laws.FnExactMirrorBraid', WHERE WHAT IT READS IS OF BULK AT MOST 1048576: true; the input reads as it did. -/
def fnExactMirrorBraidUptoRow : OpenClaim := { program := "ytoomkkeffejcdaa", sum := "b330d70e283026524633b1d6925991512593dbb58751925b2439f5a5424be0cd", func := "loop.example/g00856/laws.FnExactMirrorBraid", spec := "fnExactMirrorBraid", unfollowed := true, recurses := true, apart := false, narrowed := true }
def FnExactMirrorBraidUptoSaid : Prop := fnExactMirrorBraidUptoRow.holds Try.pinned (OpenSpec.upto fnExactMirrorBraidSpec)

/-- 'laws.FnExactReduceBraid', WHERE WHAT IT READS IS OF BULK AT MOST 1048576: true; the input reads as it did. -/
def fnExactReduceBraidUptoRow : OpenClaim := { program := "ytoomkkeffejcdaa", sum := "b330d70e283026524633b1d6925991512593dbb58751925b2439f5a5424be0cd", func := "loop.example/g00856/laws.FnExactReduceBraid", spec := "fnExactReduceBraid", unfollowed := true, recurses := true, apart := false, narrowed := true }
def FnExactReduceBraidUptoSaid : Prop := fnExactReduceBraidUptoRow.holds Try.pinned (OpenSpec.upto fnExactReduceBraidSpec)

/-- 'laws.FnExactWidenBraid', WHERE WHAT IT READS IS OF BULK AT MOST 1048576: true; the input reads as it did. -/
def fnExactWidenBraidUptoRow : OpenClaim := { program := "ytoomkkeffejcdaa", sum := "b330d70e283026524633b1d6925991512593dbb58751925b2439f5a5424be0cd", func := "loop.example/g00856/laws.FnExactWidenBraid", spec := "fnExactWidenBraid", unfollowed := true, recurses := true, apart := false, narrowed := true }
def FnExactWidenBraidUptoSaid : Prop := fnExactWidenBraidUptoRow.holds Try.pinned (OpenSpec.upto fnExactWidenBraidSpec)

/-- 'laws.FnExactJoinBraids', WHERE WHAT IT READS IS OF BULK AT MOST 1048576: true; the input reads as it did. -/
def fnExactJoinBraidsUptoRow : OpenClaim := { program := "ytoomkkeffejcdaa", sum := "b330d70e283026524633b1d6925991512593dbb58751925b2439f5a5424be0cd", func := "loop.example/g00856/laws.FnExactJoinBraids", spec := "fnExactJoinBraids", unfollowed := true, recurses := true, apart := false, narrowed := true }
def FnExactJoinBraidsUptoSaid : Prop := fnExactJoinBraidsUptoRow.holds Try.pinned (OpenSpec.upto fnExactJoinBraidsSpec)

/-- 'laws.FnExactBraidPermutation', WHERE WHAT IT READS IS OF BULK AT MOST 1048576: true; the input reads as it did. -/
def fnExactBraidPermutationUptoRow : OpenClaim := { program := "ytoomkkeffejcdaa", sum := "b330d70e283026524633b1d6925991512593dbb58751925b2439f5a5424be0cd", func := "loop.example/g00856/laws.FnExactBraidPermutation", spec := "fnExactBraidPermutation", unfollowed := true, recurses := true, apart := false, narrowed := true }
def FnExactBraidPermutationUptoSaid : Prop := fnExactBraidPermutationUptoRow.holds Try.pinned (OpenSpec.upto fnExactBraidPermutationSpec)

/-- 'laws.FnExactDoubleBraid', WHERE WHAT IT READS IS OF BULK AT MOST 1048576: true; the input reads as it did. -/
def fnExactDoubleBraidUptoRow : OpenClaim := { program := "ytoomkkeffejcdaa", sum := "b330d70e283026524633b1d6925991512593dbb58751925b2439f5a5424be0cd", func := "loop.example/g00856/laws.FnExactDoubleBraid", spec := "fnExactDoubleBraid", unfollowed := true, recurses := true, apart := false, narrowed := true }
def FnExactDoubleBraidUptoSaid : Prop := fnExactDoubleBraidUptoRow.holds Try.pinned (OpenSpec.upto fnExactDoubleBraidSpec)

/-- 'laws.FnExactSameNormal', WHERE WHAT IT READS IS OF BULK AT MOST 1048576: true; the input reads as it did. -/
def fnExactSameNormalUptoRow : OpenClaim := { program := "ytoomkkeffejcdaa", sum := "b330d70e283026524633b1d6925991512593dbb58751925b2439f5a5424be0cd", func := "loop.example/g00856/laws.FnExactSameNormal", spec := "fnExactSameNormal", unfollowed := true, recurses := true, apart := false, narrowed := true }
def FnExactSameNormalUptoSaid : Prop := fnExactSameNormalUptoRow.holds Try.pinned (OpenSpec.upto fnExactSameNormalSpec)

end Rows
end Go.Proofs.Ytoomkkeffejcdaa
