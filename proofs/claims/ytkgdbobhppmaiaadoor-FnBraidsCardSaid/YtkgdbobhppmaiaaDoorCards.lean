/-
  DERIVED. GIVEN WITH THE SEED: THE CARDS: each row of YtkgdbobhppmaiaaDoorRows.lean that lists a variable, with what it lists TIED to the program's text (the seventh form; the later family's looks); each row that meets fmt, with fmt's text TOLD by the authors' own Lean function (tested against real Go, not proved from fmt's source: count such statements apart). THE CARD IS WHAT COUNTS. Prove the row's statement (the work); the ties are given (YtkgdbobhppmaiaaDoorTie.lean); close each card by the builder's one call (the guide's Derived/Test/ToyasCard.lean, 'card_holds'). Laid BY PROGRAM, IN A SANDBOX (cutbox-door.mjs). By AI agents, Wed Nov 11 2026. No macro, syntax, notation, axiom, sorry.
-/
import Derived.Test.YtkgdbobhppmaiaaDoorRows
import GoSem.ClaimSeven
namespace Go.Proofs.YtkgdbobhppmaiaaDoor
namespace Rows

/-- THE TIED CARD OF 'laws.FnExactDecimal'. -/
def fnExactDecimalCard : Claim7 := { stood := { row := fnExactDecimalRow, standIns := [], harness := (true, "8fae1f0e4299437a2d410b8586ddb366068fe5a2da4756c5e11c96361b2556a3"), looks := true }, kinds := [], alts := [], laidByText := true, laidKinds := [.data, .data, .data], laidTests := true, laidLooks := .later }
def FnExactDecimalCardSaid : Prop := Claim7.holds Tryd.pinned (.plain (OpenSpec.ofChange fnExactDecimalSpec)) fnExactDecimalCard

/-- THE TIED CARD OF 'laws.FnExactNeedleText'. -/
def fnExactNeedleTextCard : Claim7 := { stood := { row := fnExactNeedleTextRow, standIns := [], harness := (true, "8fae1f0e4299437a2d410b8586ddb366068fe5a2da4756c5e11c96361b2556a3"), looks := true }, kinds := [], alts := [], laidByText := true, laidKinds := [.data, .data, .data], laidTests := true, laidLooks := .later }
def FnExactNeedleTextCardSaid : Prop := Claim7.holds Tryd.pinned (.plain (OpenSpec.ofChange fnExactNeedleTextSpec)) fnExactNeedleTextCard

/-- THE TIED CARD OF 'laws.FnExactSplitWords'. -/
def fnExactSplitWordsCard : Claim7 := { stood := { row := fnExactSplitWordsRow, standIns := [], harness := (true, "8fae1f0e4299437a2d410b8586ddb366068fe5a2da4756c5e11c96361b2556a3"), looks := true }, kinds := [], alts := [], laidByText := true, laidKinds := [.data, .pinned], laidTests := true, laidLooks := .later }
def FnExactSplitWordsCardSaid : Prop := Claim7.holds Tryd.pinned (.plain (OpenSpec.ofChange fnExactSplitWordsSpec)) fnExactSplitWordsCard

/-- THE TIED CARD OF 'laws.FnExactBraidText'. -/
def fnExactBraidTextCard : Claim7 := { stood := { row := fnExactBraidTextRow, standIns := [], harness := (true, "8fae1f0e4299437a2d410b8586ddb366068fe5a2da4756c5e11c96361b2556a3"), looks := true }, kinds := [], alts := [], laidByText := true, laidKinds := [.data, .data, .data], laidTests := true, laidLooks := .later }
def FnExactBraidTextCardSaid : Prop := Claim7.holds Tryd.pinned (.plain (OpenSpec.ofChange fnExactBraidTextSpec)) fnExactBraidTextCard

/-- THE TIED CARD OF 'laws.FnExactReadDecimal'. -/
def fnExactReadDecimalCard : Claim7 := { stood := { row := fnExactReadDecimalRow, standIns := [], harness := (true, "8fae1f0e4299437a2d410b8586ddb366068fe5a2da4756c5e11c96361b2556a3"), looks := true }, kinds := [], alts := [], laidByText := true, laidKinds := [.data, .data, .data, .sentinel, .sentinel], laidTests := true, laidLooks := .later }
def FnExactReadDecimalCardSaid : Prop := Claim7.holds Tryd.pinned (.plain (OpenSpec.ofChange fnExactReadDecimalSpec)) fnExactReadDecimalCard

/-- THE TIED CARD OF 'laws.FnNeedles'. -/
def fnNeedlesCard : Claim7 := { stood := { row := fnNeedlesRow, standIns := [], harness := (true, "8fae1f0e4299437a2d410b8586ddb366068fe5a2da4756c5e11c96361b2556a3"), looks := true }, kinds := [], alts := [], laidByText := true, laidKinds := [.data, .data, .data, .sentinel, .sentinel], laidTests := true, laidLooks := .later }
def FnNeedlesCardSaid : Prop := Claim7.holds Tryd.pinned (.plain (OpenSpec.ofChange fnNeedlesSpec)) fnNeedlesCard

/-- THE TIED CARD OF 'laws.FnExactReadNeedle'. -/
def fnExactReadNeedleCard : Claim7 := { stood := { row := fnExactReadNeedleRow, standIns := [], harness := (true, "8fae1f0e4299437a2d410b8586ddb366068fe5a2da4756c5e11c96361b2556a3"), looks := true }, kinds := [], alts := [], laidByText := true, laidKinds := [.data, .data, .data, .sentinel, .sentinel], laidTests := true, laidLooks := .later }
def FnExactReadNeedleCardSaid : Prop := Claim7.holds Tryd.pinned (.plain (OpenSpec.ofChange fnExactReadNeedleSpec)) fnExactReadNeedleCard

/-- THE TIED CARD OF 'laws.FnExactReadBraid'. -/
def fnExactReadBraidCard : Claim7 := { stood := { row := fnExactReadBraidRow, standIns := [], harness := (true, "8fae1f0e4299437a2d410b8586ddb366068fe5a2da4756c5e11c96361b2556a3"), looks := true }, kinds := [], alts := [], laidByText := true, laidKinds := [.data, .data, .data, .data, .sentinel, .sentinel, .pinned], laidTests := true, laidLooks := .later }
def FnExactReadBraidCardSaid : Prop := Claim7.holds Tryd.pinned (.plain (OpenSpec.ofChange fnExactReadBraidSpec)) fnExactReadBraidCard

/-- THE TIED CARD OF 'laws.FnBraids'. -/
def fnBraidsCard : Claim7 := { stood := { row := fnBraidsRow, standIns := [], harness := (true, "8fae1f0e4299437a2d410b8586ddb366068fe5a2da4756c5e11c96361b2556a3"), looks := true }, kinds := [], alts := [], laidByText := true, laidKinds := [.data, .data, .data, .data, .sentinel, .sentinel, .pinned], laidTests := true, laidLooks := .later }
def FnBraidsCardSaid : Prop := Claim7.holds Tryd.pinned (.plain (OpenSpec.ofChange fnBraidsSpec)) fnBraidsCard

/-- THE SECOND FORM's CARD OF 'laws.FnExactDecimal'. -/
def fnExactDecimalUptoCard : Claim7 := { stood := { row := fnExactDecimalUptoRow, standIns := [], harness := (true, "8fae1f0e4299437a2d410b8586ddb366068fe5a2da4756c5e11c96361b2556a3"), looks := true }, kinds := [], alts := [], laidByText := true, laidKinds := [.data, .data, .data], laidTests := true, laidLooks := .later }
def FnExactDecimalUptoCardSaid : Prop := Claim7.holds Tryd.pinned (.plain (OpenSpec.upto fnExactDecimalSpec)) fnExactDecimalUptoCard

/-- THE SECOND FORM's CARD OF 'laws.FnExactNeedleText'. -/
def fnExactNeedleTextUptoCard : Claim7 := { stood := { row := fnExactNeedleTextUptoRow, standIns := [], harness := (true, "8fae1f0e4299437a2d410b8586ddb366068fe5a2da4756c5e11c96361b2556a3"), looks := true }, kinds := [], alts := [], laidByText := true, laidKinds := [.data, .data, .data], laidTests := true, laidLooks := .later }
def FnExactNeedleTextUptoCardSaid : Prop := Claim7.holds Tryd.pinned (.plain (OpenSpec.upto fnExactNeedleTextSpec)) fnExactNeedleTextUptoCard

/-- THE SECOND FORM's CARD OF 'laws.FnExactSplitWords'. -/
def fnExactSplitWordsUptoCard : Claim7 := { stood := { row := fnExactSplitWordsUptoRow, standIns := [], harness := (true, "8fae1f0e4299437a2d410b8586ddb366068fe5a2da4756c5e11c96361b2556a3"), looks := true }, kinds := [], alts := [], laidByText := true, laidKinds := [.data, .pinned], laidTests := true, laidLooks := .later }
def FnExactSplitWordsUptoCardSaid : Prop := Claim7.holds Tryd.pinned (.plain (OpenSpec.upto fnExactSplitWordsSpec)) fnExactSplitWordsUptoCard

/-- THE SECOND FORM's CARD OF 'laws.FnExactBraidText'. -/
def fnExactBraidTextUptoCard : Claim7 := { stood := { row := fnExactBraidTextUptoRow, standIns := [], harness := (true, "8fae1f0e4299437a2d410b8586ddb366068fe5a2da4756c5e11c96361b2556a3"), looks := true }, kinds := [], alts := [], laidByText := true, laidKinds := [.data, .data, .data], laidTests := true, laidLooks := .later }
def FnExactBraidTextUptoCardSaid : Prop := Claim7.holds Tryd.pinned (.plain (OpenSpec.upto fnExactBraidTextSpec)) fnExactBraidTextUptoCard

/-- THE SECOND FORM's CARD OF 'laws.FnExactReadDecimal'. -/
def fnExactReadDecimalUptoCard : Claim7 := { stood := { row := fnExactReadDecimalUptoRow, standIns := [], harness := (true, "8fae1f0e4299437a2d410b8586ddb366068fe5a2da4756c5e11c96361b2556a3"), looks := true }, kinds := [], alts := [], laidByText := true, laidKinds := [.data, .data, .data, .sentinel, .sentinel], laidTests := true, laidLooks := .later }
def FnExactReadDecimalUptoCardSaid : Prop := Claim7.holds Tryd.pinned (.plain (OpenSpec.upto fnExactReadDecimalSpec)) fnExactReadDecimalUptoCard

/-- THE SECOND FORM's CARD OF 'laws.FnNeedles'. -/
def fnNeedlesUptoCard : Claim7 := { stood := { row := fnNeedlesUptoRow, standIns := [], harness := (true, "8fae1f0e4299437a2d410b8586ddb366068fe5a2da4756c5e11c96361b2556a3"), looks := true }, kinds := [], alts := [], laidByText := true, laidKinds := [.data, .data, .data, .sentinel, .sentinel], laidTests := true, laidLooks := .later }
def FnNeedlesUptoCardSaid : Prop := Claim7.holds Tryd.pinned (.plain (OpenSpec.upto fnNeedlesSpec)) fnNeedlesUptoCard

/-- THE SECOND FORM's CARD OF 'laws.FnExactReadNeedle'. -/
def fnExactReadNeedleUptoCard : Claim7 := { stood := { row := fnExactReadNeedleUptoRow, standIns := [], harness := (true, "8fae1f0e4299437a2d410b8586ddb366068fe5a2da4756c5e11c96361b2556a3"), looks := true }, kinds := [], alts := [], laidByText := true, laidKinds := [.data, .data, .data, .sentinel, .sentinel], laidTests := true, laidLooks := .later }
def FnExactReadNeedleUptoCardSaid : Prop := Claim7.holds Tryd.pinned (.plain (OpenSpec.upto fnExactReadNeedleSpec)) fnExactReadNeedleUptoCard

/-- THE SECOND FORM's CARD OF 'laws.FnExactReadBraid'. -/
def fnExactReadBraidUptoCard : Claim7 := { stood := { row := fnExactReadBraidUptoRow, standIns := [], harness := (true, "8fae1f0e4299437a2d410b8586ddb366068fe5a2da4756c5e11c96361b2556a3"), looks := true }, kinds := [], alts := [], laidByText := true, laidKinds := [.data, .data, .data, .data, .sentinel, .sentinel, .pinned], laidTests := true, laidLooks := .later }
def FnExactReadBraidUptoCardSaid : Prop := Claim7.holds Tryd.pinned (.plain (OpenSpec.upto fnExactReadBraidSpec)) fnExactReadBraidUptoCard

/-- THE SECOND FORM's CARD OF 'laws.FnBraids'. -/
def fnBraidsUptoCard : Claim7 := { stood := { row := fnBraidsUptoRow, standIns := [], harness := (true, "8fae1f0e4299437a2d410b8586ddb366068fe5a2da4756c5e11c96361b2556a3"), looks := true }, kinds := [], alts := [], laidByText := true, laidKinds := [.data, .data, .data, .data, .sentinel, .sentinel, .pinned], laidTests := true, laidLooks := .later }
def FnBraidsUptoCardSaid : Prop := Claim7.holds Tryd.pinned (.plain (OpenSpec.upto fnBraidsSpec)) fnBraidsUptoCard
end Rows
end Go.Proofs.YtkgdbobhppmaiaaDoor
