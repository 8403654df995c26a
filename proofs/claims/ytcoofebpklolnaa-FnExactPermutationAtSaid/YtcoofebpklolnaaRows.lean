/-
  No cell of these rows narrows 'for every input' (looked for: loops, veiled, ifaces, maps, wideKeys, modest, calm, conditions, laid).
  DERIVED. THE GIVEN ROWS OF THIS SEAT. 12 by the template 'for every input the law returns true; each argument reads behind the call as it read before'; 0 by the template 'total and deterministic' (their statements: YtcoofebpklolnaaTotals.lean).
  GIVEN WITH THE SEED: the statements are not yours to turn. If you find one false, say at which input.
  Laid BY PROGRAM, IN A SANDBOX (cutbox-rows.mjs): the forced cells as the released guide's own fill.sh prints them over the translation 5d24ddb4bfdb0784… (all of the seat's roots in one cut). By AI agents, Wed Nov 11 2026. No macro, syntax, notation, axiom, sorry.
-/
import Derived.Test.YtcoofebpklolnaaChecked
import GoSem.Claim
import GoSem.ClaimJoined
import GoSem.ClaimMapViews
import Derived.JoinedTies
import Derived.KernelRfl
namespace Go.Proofs.Ytcoofebpklolnaa
/- THE CELL 'sum', in the pinned program and in every row, IS THE sha256 OF THE DUMP (.gsa) THAT YtcoofebpklolnaaProg.lean LOADS. Nothing in Lean hashes anything: it is a label: what it is worth is what the hold of that sum in a sandbox is worth. -/
noncomputable def Try.pinned : Pinned := { name := "ytcoofebpklolnaa", sum := "5d24ddb4bfdb07848cd5cd988dc2576c160ef326eaff276ddaf23ce797da1520", checked := Try.checked }
namespace Rows
def none {H : Type} : Left H := { results := [], args := [] }

/-- 'laws.FnExactIdentityPermutation': WHATEVER THE INPUT: true; the input reads as it did. -/
def fnExactIdentityPermutationSpec : ChangeSpec := { name := "fnExactIdentityPermutation", fn := fun _ => fun
  | [d] => { results := [.lit (.bool true)], args := [d] }
  | _ => none }
def fnExactIdentityPermutationRow : OpenClaim := { program := "ytcoofebpklolnaa", sum := "5d24ddb4bfdb07848cd5cd988dc2576c160ef326eaff276ddaf23ce797da1520", func := "loop.example/g00856/laws.FnExactIdentityPermutation", spec := "fnExactIdentityPermutation", apart := false }
def FnExactIdentityPermutationSaid : Prop := fnExactIdentityPermutationRow.holds Try.pinned (OpenSpec.ofChange fnExactIdentityPermutationSpec)

/-- ITS FALSE NEIGHBOUR: 'it returns false'. Refute it at one input. -/
def fnExactIdentityPermutationWrong : ChangeSpec := { name := "fnExactIdentityPermutation", fn := fun _ => fun
  | [d] => { results := [.lit (.bool false)], args := [d] }
  | _ => none }
def FnExactIdentityPermutationWrongFalsely : Prop := fnExactIdentityPermutationRow.holds Try.pinned (OpenSpec.ofChange fnExactIdentityPermutationWrong)

/-- 'laws.FnExactHalfTwist': WHATEVER THE INPUT: true; the input reads as it did. -/
def fnExactHalfTwistSpec : ChangeSpec := { name := "fnExactHalfTwist", fn := fun _ => fun
  | [d] => { results := [.lit (.bool true)], args := [d] }
  | _ => none }
def fnExactHalfTwistRow : OpenClaim := { program := "ytcoofebpklolnaa", sum := "5d24ddb4bfdb07848cd5cd988dc2576c160ef326eaff276ddaf23ce797da1520", func := "loop.example/g00856/laws.FnExactHalfTwist", spec := "fnExactHalfTwist", apart := false }
def FnExactHalfTwistSaid : Prop := fnExactHalfTwistRow.holds Try.pinned (OpenSpec.ofChange fnExactHalfTwistSpec)

/-- ITS FALSE NEIGHBOUR: 'it returns false'. Refute it at one input. -/
def fnExactHalfTwistWrong : ChangeSpec := { name := "fnExactHalfTwist", fn := fun _ => fun
  | [d] => { results := [.lit (.bool false)], args := [d] }
  | _ => none }
def FnExactHalfTwistWrongFalsely : Prop := fnExactHalfTwistRow.holds Try.pinned (OpenSpec.ofChange fnExactHalfTwistWrong)

/-- 'laws.FnExactInversionsOf': WHATEVER THE INPUT: true; the input reads as it did. -/
def fnExactInversionsOfSpec : ChangeSpec := { name := "fnExactInversionsOf", fn := fun _ => fun
  | [d] => { results := [.lit (.bool true)], args := [d] }
  | _ => none }
def fnExactInversionsOfRow : OpenClaim := { program := "ytcoofebpklolnaa", sum := "5d24ddb4bfdb07848cd5cd988dc2576c160ef326eaff276ddaf23ce797da1520", func := "loop.example/g00856/laws.FnExactInversionsOf", spec := "fnExactInversionsOf", apart := false }
def FnExactInversionsOfSaid : Prop := fnExactInversionsOfRow.holds Try.pinned (OpenSpec.ofChange fnExactInversionsOfSpec)

/-- ITS FALSE NEIGHBOUR: 'it returns false'. Refute it at one input. -/
def fnExactInversionsOfWrong : ChangeSpec := { name := "fnExactInversionsOf", fn := fun _ => fun
  | [d] => { results := [.lit (.bool false)], args := [d] }
  | _ => none }
def FnExactInversionsOfWrongFalsely : Prop := fnExactInversionsOfRow.holds Try.pinned (OpenSpec.ofChange fnExactInversionsOfWrong)

/-- 'laws.FnExactRankOf': WHATEVER THE INPUT: true; the input reads as it did. -/
def fnExactRankOfSpec : ChangeSpec := { name := "fnExactRankOf", fn := fun _ => fun
  | [d] => { results := [.lit (.bool true)], args := [d] }
  | _ => none }
def fnExactRankOfRow : OpenClaim := { program := "ytcoofebpklolnaa", sum := "5d24ddb4bfdb07848cd5cd988dc2576c160ef326eaff276ddaf23ce797da1520", func := "loop.example/g00856/laws.FnExactRankOf", spec := "fnExactRankOf", apart := false }
def FnExactRankOfSaid : Prop := fnExactRankOfRow.holds Try.pinned (OpenSpec.ofChange fnExactRankOfSpec)

/-- ITS FALSE NEIGHBOUR: 'it returns false'. Refute it at one input. -/
def fnExactRankOfWrong : ChangeSpec := { name := "fnExactRankOf", fn := fun _ => fun
  | [d] => { results := [.lit (.bool false)], args := [d] }
  | _ => none }
def FnExactRankOfWrongFalsely : Prop := fnExactRankOfRow.holds Try.pinned (OpenSpec.ofChange fnExactRankOfWrong)

/-- 'laws.FnExactDescentsOf': WHATEVER THE INPUT: true; the input reads as it did. -/
def fnExactDescentsOfSpec : ChangeSpec := { name := "fnExactDescentsOf", fn := fun _ => fun
  | [d] => { results := [.lit (.bool true)], args := [d] }
  | _ => none }
def fnExactDescentsOfRow : OpenClaim := { program := "ytcoofebpklolnaa", sum := "5d24ddb4bfdb07848cd5cd988dc2576c160ef326eaff276ddaf23ce797da1520", func := "loop.example/g00856/laws.FnExactDescentsOf", spec := "fnExactDescentsOf", apart := false }
def FnExactDescentsOfSaid : Prop := fnExactDescentsOfRow.holds Try.pinned (OpenSpec.ofChange fnExactDescentsOfSpec)

/-- ITS FALSE NEIGHBOUR: 'it returns false'. Refute it at one input. -/
def fnExactDescentsOfWrong : ChangeSpec := { name := "fnExactDescentsOf", fn := fun _ => fun
  | [d] => { results := [.lit (.bool false)], args := [d] }
  | _ => none }
def FnExactDescentsOfWrongFalsely : Prop := fnExactDescentsOfRow.holds Try.pinned (OpenSpec.ofChange fnExactDescentsOfWrong)

/-- 'laws.FnExactInvertPermutation': WHATEVER THE INPUT: true; the input reads as it did. -/
def fnExactInvertPermutationSpec : ChangeSpec := { name := "fnExactInvertPermutation", fn := fun _ => fun
  | [d] => { results := [.lit (.bool true)], args := [d] }
  | _ => none }
def fnExactInvertPermutationRow : OpenClaim := { program := "ytcoofebpklolnaa", sum := "5d24ddb4bfdb07848cd5cd988dc2576c160ef326eaff276ddaf23ce797da1520", func := "loop.example/g00856/laws.FnExactInvertPermutation", spec := "fnExactInvertPermutation", apart := false }
def FnExactInvertPermutationSaid : Prop := fnExactInvertPermutationRow.holds Try.pinned (OpenSpec.ofChange fnExactInvertPermutationSpec)

/-- ITS FALSE NEIGHBOUR: 'it returns false'. Refute it at one input. -/
def fnExactInvertPermutationWrong : ChangeSpec := { name := "fnExactInvertPermutation", fn := fun _ => fun
  | [d] => { results := [.lit (.bool false)], args := [d] }
  | _ => none }
def FnExactInvertPermutationWrongFalsely : Prop := fnExactInvertPermutationRow.holds Try.pinned (OpenSpec.ofChange fnExactInvertPermutationWrong)

/-- 'laws.FnExactComposePermutations': WHATEVER THE INPUT: true; the input reads as it did. -/
def fnExactComposePermutationsSpec : ChangeSpec := { name := "fnExactComposePermutations", fn := fun _ => fun
  | [d1, d2] => { results := [.lit (.bool true)], args := [d1, d2] }
  | _ => none }
def fnExactComposePermutationsRow : OpenClaim := { program := "ytcoofebpklolnaa", sum := "5d24ddb4bfdb07848cd5cd988dc2576c160ef326eaff276ddaf23ce797da1520", func := "loop.example/g00856/laws.FnExactComposePermutations", spec := "fnExactComposePermutations", apart := false }
def FnExactComposePermutationsSaid : Prop := fnExactComposePermutationsRow.holds Try.pinned (OpenSpec.ofChange fnExactComposePermutationsSpec)

/-- ITS FALSE NEIGHBOUR: 'it returns false'. Refute it at one input. -/
def fnExactComposePermutationsWrong : ChangeSpec := { name := "fnExactComposePermutations", fn := fun _ => fun
  | [d1, d2] => { results := [.lit (.bool false)], args := [d1, d2] }
  | _ => none }
def FnExactComposePermutationsWrongFalsely : Prop := fnExactComposePermutationsRow.holds Try.pinned (OpenSpec.ofChange fnExactComposePermutationsWrong)

/-- 'laws.FnExactFlipPermutation': WHATEVER THE INPUT: true; the input reads as it did. -/
def fnExactFlipPermutationSpec : ChangeSpec := { name := "fnExactFlipPermutation", fn := fun _ => fun
  | [d] => { results := [.lit (.bool true)], args := [d] }
  | _ => none }
def fnExactFlipPermutationRow : OpenClaim := { program := "ytcoofebpklolnaa", sum := "5d24ddb4bfdb07848cd5cd988dc2576c160ef326eaff276ddaf23ce797da1520", func := "loop.example/g00856/laws.FnExactFlipPermutation", spec := "fnExactFlipPermutation", apart := false }
def FnExactFlipPermutationSaid : Prop := fnExactFlipPermutationRow.holds Try.pinned (OpenSpec.ofChange fnExactFlipPermutationSpec)

/-- ITS FALSE NEIGHBOUR: 'it returns false'. Refute it at one input. -/
def fnExactFlipPermutationWrong : ChangeSpec := { name := "fnExactFlipPermutation", fn := fun _ => fun
  | [d] => { results := [.lit (.bool false)], args := [d] }
  | _ => none }
def FnExactFlipPermutationWrongFalsely : Prop := fnExactFlipPermutationRow.holds Try.pinned (OpenSpec.ofChange fnExactFlipPermutationWrong)

/-- 'laws.FnExactPermutationOfWord': WHATEVER THE INPUT: true; the input reads as it did. -/
def fnExactPermutationOfWordSpec : ChangeSpec := { name := "fnExactPermutationOfWord", fn := fun _ => fun
  | [d1, d2] => { results := [.lit (.bool true)], args := [d1, d2] }
  | _ => none }
def fnExactPermutationOfWordRow : OpenClaim := { program := "ytcoofebpklolnaa", sum := "5d24ddb4bfdb07848cd5cd988dc2576c160ef326eaff276ddaf23ce797da1520", func := "loop.example/g00856/laws.FnExactPermutationOfWord", spec := "fnExactPermutationOfWord", apart := false }
def FnExactPermutationOfWordSaid : Prop := fnExactPermutationOfWordRow.holds Try.pinned (OpenSpec.ofChange fnExactPermutationOfWordSpec)

/-- ITS FALSE NEIGHBOUR: 'it returns false'. Refute it at one input. -/
def fnExactPermutationOfWordWrong : ChangeSpec := { name := "fnExactPermutationOfWord", fn := fun _ => fun
  | [d1, d2] => { results := [.lit (.bool false)], args := [d1, d2] }
  | _ => none }
def FnExactPermutationOfWordWrongFalsely : Prop := fnExactPermutationOfWordRow.holds Try.pinned (OpenSpec.ofChange fnExactPermutationOfWordWrong)

/-- 'laws.FnExactPermutationAt': WHATEVER THE INPUT: true; the input reads as it did. -/
def fnExactPermutationAtSpec : ChangeSpec := { name := "fnExactPermutationAt", fn := fun _ => fun
  | [d1, d2] => { results := [.lit (.bool true)], args := [d1, d2] }
  | _ => none }
def fnExactPermutationAtRow : OpenClaim := { program := "ytcoofebpklolnaa", sum := "5d24ddb4bfdb07848cd5cd988dc2576c160ef326eaff276ddaf23ce797da1520", func := "loop.example/g00856/laws.FnExactPermutationAt", spec := "fnExactPermutationAt", apart := false }
def FnExactPermutationAtSaid : Prop := fnExactPermutationAtRow.holds Try.pinned (OpenSpec.ofChange fnExactPermutationAtSpec)

/-- ITS FALSE NEIGHBOUR: 'it returns false'. Refute it at one input. -/
def fnExactPermutationAtWrong : ChangeSpec := { name := "fnExactPermutationAt", fn := fun _ => fun
  | [d1, d2] => { results := [.lit (.bool false)], args := [d1, d2] }
  | _ => none }
def FnExactPermutationAtWrongFalsely : Prop := fnExactPermutationAtRow.holds Try.pinned (OpenSpec.ofChange fnExactPermutationAtWrong)

/-- 'laws.FnExactStartLetters': WHATEVER THE INPUT: true; the input reads as it did. -/
def fnExactStartLettersSpec : ChangeSpec := { name := "fnExactStartLetters", fn := fun _ => fun
  | [d] => { results := [.lit (.bool true)], args := [d] }
  | _ => none }
def fnExactStartLettersRow : OpenClaim := { program := "ytcoofebpklolnaa", sum := "5d24ddb4bfdb07848cd5cd988dc2576c160ef326eaff276ddaf23ce797da1520", func := "loop.example/g00856/laws.FnExactStartLetters", spec := "fnExactStartLetters", apart := false }
def FnExactStartLettersSaid : Prop := fnExactStartLettersRow.holds Try.pinned (OpenSpec.ofChange fnExactStartLettersSpec)

/-- ITS FALSE NEIGHBOUR: 'it returns false'. Refute it at one input. -/
def fnExactStartLettersWrong : ChangeSpec := { name := "fnExactStartLetters", fn := fun _ => fun
  | [d] => { results := [.lit (.bool false)], args := [d] }
  | _ => none }
def FnExactStartLettersWrongFalsely : Prop := fnExactStartLettersRow.holds Try.pinned (OpenSpec.ofChange fnExactStartLettersWrong)

/-- 'laws.FnExactFinishLetters': WHATEVER THE INPUT: true; the input reads as it did. -/
def fnExactFinishLettersSpec : ChangeSpec := { name := "fnExactFinishLetters", fn := fun _ => fun
  | [d] => { results := [.lit (.bool true)], args := [d] }
  | _ => none }
def fnExactFinishLettersRow : OpenClaim := { program := "ytcoofebpklolnaa", sum := "5d24ddb4bfdb07848cd5cd988dc2576c160ef326eaff276ddaf23ce797da1520", func := "loop.example/g00856/laws.FnExactFinishLetters", spec := "fnExactFinishLetters", apart := false }
def FnExactFinishLettersSaid : Prop := fnExactFinishLettersRow.holds Try.pinned (OpenSpec.ofChange fnExactFinishLettersSpec)

/-- ITS FALSE NEIGHBOUR: 'it returns false'. Refute it at one input. -/
def fnExactFinishLettersWrong : ChangeSpec := { name := "fnExactFinishLetters", fn := fun _ => fun
  | [d] => { results := [.lit (.bool false)], args := [d] }
  | _ => none }
def FnExactFinishLettersWrongFalsely : Prop := fnExactFinishLettersRow.holds Try.pinned (OpenSpec.ofChange fnExactFinishLettersWrong)

/- THE SECOND FORM. 'bulk': how many values and letters a reading holds, each counted each time it is reached (what is shared counts as often as it is met; a slice's spare places count too). A statement '..UptoSaid' is the law's where the arguments, and the package variables that the reading takes, are together of bulk at most 1048576: NARROWER than '..Said'. Prove '..Said' where nothing that the law and all that it calls make is longer than what came in: it says more and counts as full. Else prove '..UptoSaid'. A law counts once. -/
mutual
def uptoBulk {H : Type} : DataW H → Nat
  | .lit (.string bytes) => bytes.length + 1
  | .lit _ => 1
  | .nil => 1
  | .ptr d => uptoBulk d + 1
  | .slice elems spare => uptoBulkAll elems + uptoBulkAll spare + 1
  | .agg parts => uptoBulkAll parts + 1
  | .iface _ d => uptoBulk d + 1
  | .map entries => uptoBulkEntries entries + 1
  | .held _ => 1
def uptoBulkAll {H : Type} : List (DataW H) → Nat
  | [] => 0
  | d :: r => uptoBulk d + uptoBulkAll r
def uptoBulkEntries {H : Type} : List (Lit × DataW H) → Nat
  | [] => 0
  | x :: r => uptoBulkEntry x + uptoBulkEntries r
def uptoBulkEntry {H : Type} : Lit × DataW H → Nat
  | (.string bytes, d) => bytes.length + uptoBulk d + 1
  | (_, d) => uptoBulk d + 1
 end
def uptoSmall : (H : Type) → List (DataW H) → Bool := fun _ ds => decide (uptoBulkAll ds ≤ 1048576)
def OpenSpec.upto (s : _root_.Go.ChangeSpec) : _root_.Go.OpenSpec := { _root_.Go.OpenSpec.ofChange s with cond := some uptoSmall }

/-- 'laws.FnExactIdentityPermutation', WHERE WHAT IT READS IS OF BULK AT MOST 1048576: true; the input reads as it did. -/
def fnExactIdentityPermutationUptoRow : OpenClaim := { program := "ytcoofebpklolnaa", sum := "5d24ddb4bfdb07848cd5cd988dc2576c160ef326eaff276ddaf23ce797da1520", func := "loop.example/g00856/laws.FnExactIdentityPermutation", spec := "fnExactIdentityPermutation", apart := false, narrowed := true }
def FnExactIdentityPermutationUptoSaid : Prop := fnExactIdentityPermutationUptoRow.holds Try.pinned (OpenSpec.upto fnExactIdentityPermutationSpec)

/-- 'laws.FnExactHalfTwist', WHERE WHAT IT READS IS OF BULK AT MOST 1048576: true; the input reads as it did. -/
def fnExactHalfTwistUptoRow : OpenClaim := { program := "ytcoofebpklolnaa", sum := "5d24ddb4bfdb07848cd5cd988dc2576c160ef326eaff276ddaf23ce797da1520", func := "loop.example/g00856/laws.FnExactHalfTwist", spec := "fnExactHalfTwist", apart := false, narrowed := true }
def FnExactHalfTwistUptoSaid : Prop := fnExactHalfTwistUptoRow.holds Try.pinned (OpenSpec.upto fnExactHalfTwistSpec)

/-- 'laws.FnExactInversionsOf', WHERE WHAT IT READS IS OF BULK AT MOST 1048576: true; the input reads as it did. -/
def fnExactInversionsOfUptoRow : OpenClaim := { program := "ytcoofebpklolnaa", sum := "5d24ddb4bfdb07848cd5cd988dc2576c160ef326eaff276ddaf23ce797da1520", func := "loop.example/g00856/laws.FnExactInversionsOf", spec := "fnExactInversionsOf", apart := false, narrowed := true }
def FnExactInversionsOfUptoSaid : Prop := fnExactInversionsOfUptoRow.holds Try.pinned (OpenSpec.upto fnExactInversionsOfSpec)

/-- 'laws.FnExactRankOf', WHERE WHAT IT READS IS OF BULK AT MOST 1048576: true; the input reads as it did. -/
def fnExactRankOfUptoRow : OpenClaim := { program := "ytcoofebpklolnaa", sum := "5d24ddb4bfdb07848cd5cd988dc2576c160ef326eaff276ddaf23ce797da1520", func := "loop.example/g00856/laws.FnExactRankOf", spec := "fnExactRankOf", apart := false, narrowed := true }
def FnExactRankOfUptoSaid : Prop := fnExactRankOfUptoRow.holds Try.pinned (OpenSpec.upto fnExactRankOfSpec)

/-- 'laws.FnExactDescentsOf', WHERE WHAT IT READS IS OF BULK AT MOST 1048576: true; the input reads as it did. -/
def fnExactDescentsOfUptoRow : OpenClaim := { program := "ytcoofebpklolnaa", sum := "5d24ddb4bfdb07848cd5cd988dc2576c160ef326eaff276ddaf23ce797da1520", func := "loop.example/g00856/laws.FnExactDescentsOf", spec := "fnExactDescentsOf", apart := false, narrowed := true }
def FnExactDescentsOfUptoSaid : Prop := fnExactDescentsOfUptoRow.holds Try.pinned (OpenSpec.upto fnExactDescentsOfSpec)

/-- 'laws.FnExactInvertPermutation', WHERE WHAT IT READS IS OF BULK AT MOST 1048576: true; the input reads as it did. -/
def fnExactInvertPermutationUptoRow : OpenClaim := { program := "ytcoofebpklolnaa", sum := "5d24ddb4bfdb07848cd5cd988dc2576c160ef326eaff276ddaf23ce797da1520", func := "loop.example/g00856/laws.FnExactInvertPermutation", spec := "fnExactInvertPermutation", apart := false, narrowed := true }
def FnExactInvertPermutationUptoSaid : Prop := fnExactInvertPermutationUptoRow.holds Try.pinned (OpenSpec.upto fnExactInvertPermutationSpec)

/-- 'laws.FnExactComposePermutations', WHERE WHAT IT READS IS OF BULK AT MOST 1048576: true; the input reads as it did. -/
def fnExactComposePermutationsUptoRow : OpenClaim := { program := "ytcoofebpklolnaa", sum := "5d24ddb4bfdb07848cd5cd988dc2576c160ef326eaff276ddaf23ce797da1520", func := "loop.example/g00856/laws.FnExactComposePermutations", spec := "fnExactComposePermutations", apart := false, narrowed := true }
def FnExactComposePermutationsUptoSaid : Prop := fnExactComposePermutationsUptoRow.holds Try.pinned (OpenSpec.upto fnExactComposePermutationsSpec)

/-- 'laws.FnExactFlipPermutation', WHERE WHAT IT READS IS OF BULK AT MOST 1048576: true; the input reads as it did. -/
def fnExactFlipPermutationUptoRow : OpenClaim := { program := "ytcoofebpklolnaa", sum := "5d24ddb4bfdb07848cd5cd988dc2576c160ef326eaff276ddaf23ce797da1520", func := "loop.example/g00856/laws.FnExactFlipPermutation", spec := "fnExactFlipPermutation", apart := false, narrowed := true }
def FnExactFlipPermutationUptoSaid : Prop := fnExactFlipPermutationUptoRow.holds Try.pinned (OpenSpec.upto fnExactFlipPermutationSpec)

/-- 'laws.FnExactPermutationOfWord', WHERE WHAT IT READS IS OF BULK AT MOST 1048576: true; the input reads as it did. -/
def fnExactPermutationOfWordUptoRow : OpenClaim := { program := "ytcoofebpklolnaa", sum := "5d24ddb4bfdb07848cd5cd988dc2576c160ef326eaff276ddaf23ce797da1520", func := "loop.example/g00856/laws.FnExactPermutationOfWord", spec := "fnExactPermutationOfWord", apart := false, narrowed := true }
def FnExactPermutationOfWordUptoSaid : Prop := fnExactPermutationOfWordUptoRow.holds Try.pinned (OpenSpec.upto fnExactPermutationOfWordSpec)

/-- 'laws.FnExactPermutationAt', WHERE WHAT IT READS IS OF BULK AT MOST 1048576: true; the input reads as it did. -/
def fnExactPermutationAtUptoRow : OpenClaim := { program := "ytcoofebpklolnaa", sum := "5d24ddb4bfdb07848cd5cd988dc2576c160ef326eaff276ddaf23ce797da1520", func := "loop.example/g00856/laws.FnExactPermutationAt", spec := "fnExactPermutationAt", apart := false, narrowed := true }
def FnExactPermutationAtUptoSaid : Prop := fnExactPermutationAtUptoRow.holds Try.pinned (OpenSpec.upto fnExactPermutationAtSpec)

/-- 'laws.FnExactStartLetters', WHERE WHAT IT READS IS OF BULK AT MOST 1048576: true; the input reads as it did. -/
def fnExactStartLettersUptoRow : OpenClaim := { program := "ytcoofebpklolnaa", sum := "5d24ddb4bfdb07848cd5cd988dc2576c160ef326eaff276ddaf23ce797da1520", func := "loop.example/g00856/laws.FnExactStartLetters", spec := "fnExactStartLetters", apart := false, narrowed := true }
def FnExactStartLettersUptoSaid : Prop := fnExactStartLettersUptoRow.holds Try.pinned (OpenSpec.upto fnExactStartLettersSpec)

/-- 'laws.FnExactFinishLetters', WHERE WHAT IT READS IS OF BULK AT MOST 1048576: true; the input reads as it did. -/
def fnExactFinishLettersUptoRow : OpenClaim := { program := "ytcoofebpklolnaa", sum := "5d24ddb4bfdb07848cd5cd988dc2576c160ef326eaff276ddaf23ce797da1520", func := "loop.example/g00856/laws.FnExactFinishLetters", spec := "fnExactFinishLetters", apart := false, narrowed := true }
def FnExactFinishLettersUptoSaid : Prop := fnExactFinishLettersUptoRow.holds Try.pinned (OpenSpec.upto fnExactFinishLettersSpec)

end Rows
end Go.Proofs.Ytcoofebpklolnaa
