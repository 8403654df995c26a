/-
  No cell of these rows narrows 'for every input' (looked for: loops, veiled, ifaces, maps, wideKeys, modest, calm, conditions, laid).
  DERIVED. THE GIVEN ROWS OF THIS SEAT. 8 by the template 'for every input the law returns true; each argument reads behind the call as it read before'; 0 by the template 'total and deterministic' (their statements: YtgibgcjpehcemaaTotals.lean).
  GIVEN WITH THE SEED: the statements are not yours to turn. If you find one false, say at which input.
  Laid BY PROGRAM, IN A SANDBOX (cutbox-rows.mjs): the forced cells as the released guide's own fill.sh prints them over the translation c34977aa62974a23… (all of the seat's roots in one cut). By AI agents, Wed Nov 11 2026. No macro, syntax, notation, axiom, sorry.
-/
import Derived.Test.YtgibgcjpehcemaaChecked
import GoSem.Claim
import GoSem.ClaimJoined
import GoSem.ClaimMapViews
import Derived.JoinedTies
import Derived.KernelRfl
namespace Go.Proofs.Ytgibgcjpehcemaa
/- THE CELL 'sum', in the pinned program and in every row, IS THE sha256 OF THE DUMP (.gsa) THAT YtgibgcjpehcemaaProg.lean LOADS. Nothing in Lean hashes anything: it is a label: what it is worth is what the hold of that sum in a sandbox is worth. -/
noncomputable def Try.pinned : Pinned := { name := "ytgibgcjpehcemaa", sum := "c34977aa62974a23a711ef2f67869a696dcb3bc8afb88d328a41cf596cf8717a", checked := Try.checked }
namespace Rows
def none {H : Type} : Left H := { results := [], args := [] }

/-- 'laws.FnExactReducedWord': WHATEVER THE INPUT: true; the input reads as it did. -/
def fnExactReducedWordSpec : ChangeSpec := { name := "fnExactReducedWord", fn := fun _ => fun
  | [d] => { results := [.lit (.bool true)], args := [d] }
  | _ => none }
def fnExactReducedWordRow : OpenClaim := { program := "ytgibgcjpehcemaa", sum := "c34977aa62974a23a711ef2f67869a696dcb3bc8afb88d328a41cf596cf8717a", func := "loop.example/g00856/laws.FnExactReducedWord", spec := "fnExactReducedWord", apart := false }
def FnExactReducedWordSaid : Prop := fnExactReducedWordRow.holds Try.pinned (OpenSpec.ofChange fnExactReducedWordSpec)

/-- ITS FALSE NEIGHBOUR: 'it returns false'. Refute it at one input. -/
def fnExactReducedWordWrong : ChangeSpec := { name := "fnExactReducedWord", fn := fun _ => fun
  | [d] => { results := [.lit (.bool false)], args := [d] }
  | _ => none }
def FnExactReducedWordWrongFalsely : Prop := fnExactReducedWordRow.holds Try.pinned (OpenSpec.ofChange fnExactReducedWordWrong)

/-- 'laws.FnExactLeftWeighted': WHATEVER THE INPUT: true; the input reads as it did. -/
def fnExactLeftWeightedSpec : ChangeSpec := { name := "fnExactLeftWeighted", fn := fun _ => fun
  | [d1, d2] => { results := [.lit (.bool true)], args := [d1, d2] }
  | _ => none }
def fnExactLeftWeightedRow : OpenClaim := { program := "ytgibgcjpehcemaa", sum := "c34977aa62974a23a711ef2f67869a696dcb3bc8afb88d328a41cf596cf8717a", func := "loop.example/g00856/laws.FnExactLeftWeighted", spec := "fnExactLeftWeighted", apart := false }
def FnExactLeftWeightedSaid : Prop := fnExactLeftWeightedRow.holds Try.pinned (OpenSpec.ofChange fnExactLeftWeightedSpec)

/-- ITS FALSE NEIGHBOUR: 'it returns false'. Refute it at one input. -/
def fnExactLeftWeightedWrong : ChangeSpec := { name := "fnExactLeftWeighted", fn := fun _ => fun
  | [d1, d2] => { results := [.lit (.bool false)], args := [d1, d2] }
  | _ => none }
def FnExactLeftWeightedWrongFalsely : Prop := fnExactLeftWeightedRow.holds Try.pinned (OpenSpec.ofChange fnExactLeftWeightedWrong)

/-- 'laws.FnExactJoinPermutations': WHATEVER THE INPUT: true; the input reads as it did. -/
def fnExactJoinPermutationsSpec : ChangeSpec := { name := "fnExactJoinPermutations", fn := fun _ => fun
  | [d1, d2] => { results := [.lit (.bool true)], args := [d1, d2] }
  | _ => none }
def fnExactJoinPermutationsRow : OpenClaim := { program := "ytgibgcjpehcemaa", sum := "c34977aa62974a23a711ef2f67869a696dcb3bc8afb88d328a41cf596cf8717a", func := "loop.example/g00856/laws.FnExactJoinPermutations", spec := "fnExactJoinPermutations", apart := false }
def FnExactJoinPermutationsSaid : Prop := fnExactJoinPermutationsRow.holds Try.pinned (OpenSpec.ofChange fnExactJoinPermutationsSpec)

/-- ITS FALSE NEIGHBOUR: 'it returns false'. Refute it at one input. -/
def fnExactJoinPermutationsWrong : ChangeSpec := { name := "fnExactJoinPermutations", fn := fun _ => fun
  | [d1, d2] => { results := [.lit (.bool false)], args := [d1, d2] }
  | _ => none }
def FnExactJoinPermutationsWrongFalsely : Prop := fnExactJoinPermutationsRow.holds Try.pinned (OpenSpec.ofChange fnExactJoinPermutationsWrong)

/-- 'laws.FnExactMeetPermutations': WHATEVER THE INPUT: true; the input reads as it did. -/
def fnExactMeetPermutationsSpec : ChangeSpec := { name := "fnExactMeetPermutations", fn := fun _ => fun
  | [d1, d2] => { results := [.lit (.bool true)], args := [d1, d2] }
  | _ => none }
def fnExactMeetPermutationsRow : OpenClaim := { program := "ytgibgcjpehcemaa", sum := "c34977aa62974a23a711ef2f67869a696dcb3bc8afb88d328a41cf596cf8717a", func := "loop.example/g00856/laws.FnExactMeetPermutations", spec := "fnExactMeetPermutations", apart := false }
def FnExactMeetPermutationsSaid : Prop := fnExactMeetPermutationsRow.holds Try.pinned (OpenSpec.ofChange fnExactMeetPermutationsSpec)

/-- ITS FALSE NEIGHBOUR: 'it returns false'. Refute it at one input. -/
def fnExactMeetPermutationsWrong : ChangeSpec := { name := "fnExactMeetPermutations", fn := fun _ => fun
  | [d1, d2] => { results := [.lit (.bool false)], args := [d1, d2] }
  | _ => none }
def FnExactMeetPermutationsWrongFalsely : Prop := fnExactMeetPermutationsRow.holds Try.pinned (OpenSpec.ofChange fnExactMeetPermutationsWrong)

/-- 'laws.FnLattice': WHATEVER THE INPUT: true; the input reads as it did. -/
def fnLatticeSpec : ChangeSpec := { name := "fnLattice", fn := fun _ => fun
  | [d] => { results := [.lit (.bool true)], args := [d] }
  | _ => none }
def fnLatticeRow : OpenClaim := { program := "ytgibgcjpehcemaa", sum := "c34977aa62974a23a711ef2f67869a696dcb3bc8afb88d328a41cf596cf8717a", func := "loop.example/g00856/laws.FnLattice", spec := "fnLattice", apart := false }
def FnLatticeSaid : Prop := fnLatticeRow.holds Try.pinned (OpenSpec.ofChange fnLatticeSpec)

/-- ITS FALSE NEIGHBOUR: 'it returns false'. Refute it at one input. -/
def fnLatticeWrong : ChangeSpec := { name := "fnLattice", fn := fun _ => fun
  | [d] => { results := [.lit (.bool false)], args := [d] }
  | _ => none }
def FnLatticeWrongFalsely : Prop := fnLatticeRow.holds Try.pinned (OpenSpec.ofChange fnLatticeWrong)

/-- 'laws.FnWords': WHATEVER THE INPUT: true; the input reads as it did. -/
def fnWordsSpec : ChangeSpec := { name := "fnWords", fn := fun _ => fun
  | [d1, d2] => { results := [.lit (.bool true)], args := [d1, d2] }
  | _ => none }
def fnWordsRow : OpenClaim := { program := "ytgibgcjpehcemaa", sum := "c34977aa62974a23a711ef2f67869a696dcb3bc8afb88d328a41cf596cf8717a", func := "loop.example/g00856/laws.FnWords", spec := "fnWords", apart := false }
def FnWordsSaid : Prop := fnWordsRow.holds Try.pinned (OpenSpec.ofChange fnWordsSpec)

/-- ITS FALSE NEIGHBOUR: 'it returns false'. Refute it at one input. -/
def fnWordsWrong : ChangeSpec := { name := "fnWords", fn := fun _ => fun
  | [d1, d2] => { results := [.lit (.bool false)], args := [d1, d2] }
  | _ => none }
def FnWordsWrongFalsely : Prop := fnWordsRow.holds Try.pinned (OpenSpec.ofChange fnWordsWrong)

/-- 'laws.FnPermutations': WHATEVER THE INPUT: true; the input reads as it did. -/
def fnPermutationsSpec : ChangeSpec := { name := "fnPermutations", fn := fun _ => fun
  | [d] => { results := [.lit (.bool true)], args := [d] }
  | _ => none }
def fnPermutationsRow : OpenClaim := { program := "ytgibgcjpehcemaa", sum := "c34977aa62974a23a711ef2f67869a696dcb3bc8afb88d328a41cf596cf8717a", func := "loop.example/g00856/laws.FnPermutations", spec := "fnPermutations", apart := false }
def FnPermutationsSaid : Prop := fnPermutationsRow.holds Try.pinned (OpenSpec.ofChange fnPermutationsSpec)

/-- ITS FALSE NEIGHBOUR: 'it returns false'. Refute it at one input. -/
def fnPermutationsWrong : ChangeSpec := { name := "fnPermutations", fn := fun _ => fun
  | [d] => { results := [.lit (.bool false)], args := [d] }
  | _ => none }
def FnPermutationsWrongFalsely : Prop := fnPermutationsRow.holds Try.pinned (OpenSpec.ofChange fnPermutationsWrong)

/-- 'laws.FnExactPermutationBraid': WHATEVER THE INPUT: true; the input reads as it did. -/
def fnExactPermutationBraidSpec : ChangeSpec := { name := "fnExactPermutationBraid", fn := fun _ => fun
  | [d] => { results := [.lit (.bool true)], args := [d] }
  | _ => none }
def fnExactPermutationBraidRow : OpenClaim := { program := "ytgibgcjpehcemaa", sum := "c34977aa62974a23a711ef2f67869a696dcb3bc8afb88d328a41cf596cf8717a", func := "loop.example/g00856/laws.FnExactPermutationBraid", spec := "fnExactPermutationBraid", apart := false }
def FnExactPermutationBraidSaid : Prop := fnExactPermutationBraidRow.holds Try.pinned (OpenSpec.ofChange fnExactPermutationBraidSpec)

/-- ITS FALSE NEIGHBOUR: 'it returns false'. Refute it at one input. -/
def fnExactPermutationBraidWrong : ChangeSpec := { name := "fnExactPermutationBraid", fn := fun _ => fun
  | [d] => { results := [.lit (.bool false)], args := [d] }
  | _ => none }
def FnExactPermutationBraidWrongFalsely : Prop := fnExactPermutationBraidRow.holds Try.pinned (OpenSpec.ofChange fnExactPermutationBraidWrong)

/- THE SECOND FORM. 'bulk': how many values and letters a reading holds, each counted each time it is reached (what is shared counts as often as it is met; a slice's spare places count too). A statement '..UptoSaid' is the law's where the arguments, and the package variables that the reading takes, are together of bulk at most 1048576: NARROWER than '..Said'. Prove '..Said' where nothing that the law and all that it calls make is longer than what came in: it says more and counts as full. Else prove '..UptoSaid'. A law counts once. -/
mutual
def uptoBulk {H : Type} : DataW H → Nat
  | .lit (.string bytes) => bytes.length + 1
  | .lit _ => 1
  | .nil => 1
  | .ptr d => uptoBulk d + 1
  | .slice elems spare => uptoBulkAll elems + uptoBulkAll spare + 1
  | .agg parts => uptoBulkAll parts + 1
  | .iface _ d => uptoBulk d + 1
  | .map entries => uptoBulkEntries entries + 1
  | .held _ => 1
def uptoBulkAll {H : Type} : List (DataW H) → Nat
  | [] => 0
  | d :: r => uptoBulk d + uptoBulkAll r
def uptoBulkEntries {H : Type} : List (Lit × DataW H) → Nat
  | [] => 0
  | x :: r => uptoBulkEntry x + uptoBulkEntries r
def uptoBulkEntry {H : Type} : Lit × DataW H → Nat
  | (.string bytes, d) => bytes.length + uptoBulk d + 1
  | (_, d) => uptoBulk d + 1
 end
def uptoSmall : (H : Type) → List (DataW H) → Bool := fun _ ds => decide (uptoBulkAll ds ≤ 1048576)
def OpenSpec.upto (s : _root_.Go.ChangeSpec) : _root_.Go.OpenSpec := { _root_.Go.OpenSpec.ofChange s with cond := some uptoSmall }

/-- 'laws.FnExactReducedWord', WHERE WHAT IT READS IS OF BULK AT MOST 1048576: true; the input reads as it did. -/
def fnExactReducedWordUptoRow : OpenClaim := { program := "ytgibgcjpehcemaa", sum := "c34977aa62974a23a711ef2f67869a696dcb3bc8afb88d328a41cf596cf8717a", func := "loop.example/g00856/laws.FnExactReducedWord", spec := "fnExactReducedWord", apart := false, narrowed := true }
def FnExactReducedWordUptoSaid : Prop := fnExactReducedWordUptoRow.holds Try.pinned (OpenSpec.upto fnExactReducedWordSpec)

/-- 'laws.FnExactLeftWeighted', WHERE WHAT IT READS IS OF BULK AT MOST 1048576: true; the input reads as it did. -/
def fnExactLeftWeightedUptoRow : OpenClaim := { program := "ytgibgcjpehcemaa", sum := "c34977aa62974a23a711ef2f67869a696dcb3bc8afb88d328a41cf596cf8717a", func := "loop.example/g00856/laws.FnExactLeftWeighted", spec := "fnExactLeftWeighted", apart := false, narrowed := true }
def FnExactLeftWeightedUptoSaid : Prop := fnExactLeftWeightedUptoRow.holds Try.pinned (OpenSpec.upto fnExactLeftWeightedSpec)

/-- 'laws.FnExactJoinPermutations', WHERE WHAT IT READS IS OF BULK AT MOST 1048576: true; the input reads as it did. -/
def fnExactJoinPermutationsUptoRow : OpenClaim := { program := "ytgibgcjpehcemaa", sum := "c34977aa62974a23a711ef2f67869a696dcb3bc8afb88d328a41cf596cf8717a", func := "loop.example/g00856/laws.FnExactJoinPermutations", spec := "fnExactJoinPermutations", apart := false, narrowed := true }
def FnExactJoinPermutationsUptoSaid : Prop := fnExactJoinPermutationsUptoRow.holds Try.pinned (OpenSpec.upto fnExactJoinPermutationsSpec)

/-- 'laws.FnExactMeetPermutations', WHERE WHAT IT READS IS OF BULK AT MOST 1048576: true; the input reads as it did. -/
def fnExactMeetPermutationsUptoRow : OpenClaim := { program := "ytgibgcjpehcemaa", sum := "c34977aa62974a23a711ef2f67869a696dcb3bc8afb88d328a41cf596cf8717a", func := "loop.example/g00856/laws.FnExactMeetPermutations", spec := "fnExactMeetPermutations", apart := false, narrowed := true }
def FnExactMeetPermutationsUptoSaid : Prop := fnExactMeetPermutationsUptoRow.holds Try.pinned (OpenSpec.upto fnExactMeetPermutationsSpec)

/-- 'laws.FnLattice', WHERE WHAT IT READS IS OF BULK AT MOST 1048576: true; the input reads as it did. -/
def fnLatticeUptoRow : OpenClaim := { program := "ytgibgcjpehcemaa", sum := "c34977aa62974a23a711ef2f67869a696dcb3bc8afb88d328a41cf596cf8717a", func := "loop.example/g00856/laws.FnLattice", spec := "fnLattice", apart := false, narrowed := true }
def FnLatticeUptoSaid : Prop := fnLatticeUptoRow.holds Try.pinned (OpenSpec.upto fnLatticeSpec)

/-- 'laws.FnWords', WHERE WHAT IT READS IS OF BULK AT MOST 1048576: true; the input reads as it did. -/
def fnWordsUptoRow : OpenClaim := { program := "ytgibgcjpehcemaa", sum := "c34977aa62974a23a711ef2f67869a696dcb3bc8afb88d328a41cf596cf8717a", func := "loop.example/g00856/laws.FnWords", spec := "fnWords", apart := false, narrowed := true }
def FnWordsUptoSaid : Prop := fnWordsUptoRow.holds Try.pinned (OpenSpec.upto fnWordsSpec)

/-- 'laws.FnPermutations', WHERE WHAT IT READS IS OF BULK AT MOST 1048576: true; the input reads as it did. -/
def fnPermutationsUptoRow : OpenClaim := { program := "ytgibgcjpehcemaa", sum := "c34977aa62974a23a711ef2f67869a696dcb3bc8afb88d328a41cf596cf8717a", func := "loop.example/g00856/laws.FnPermutations", spec := "fnPermutations", apart := false, narrowed := true }
def FnPermutationsUptoSaid : Prop := fnPermutationsUptoRow.holds Try.pinned (OpenSpec.upto fnPermutationsSpec)

/-- 'laws.FnExactPermutationBraid', WHERE WHAT IT READS IS OF BULK AT MOST 1048576: true; the input reads as it did. -/
def fnExactPermutationBraidUptoRow : OpenClaim := { program := "ytgibgcjpehcemaa", sum := "c34977aa62974a23a711ef2f67869a696dcb3bc8afb88d328a41cf596cf8717a", func := "loop.example/g00856/laws.FnExactPermutationBraid", spec := "fnExactPermutationBraid", apart := false, narrowed := true }
def FnExactPermutationBraidUptoSaid : Prop := fnExactPermutationBraidUptoRow.holds Try.pinned (OpenSpec.upto fnExactPermutationBraidSpec)

end Rows
end Go.Proofs.Ytgibgcjpehcemaa
