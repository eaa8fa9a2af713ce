/-
  DERIVED. GIVEN WITH THE SEED: THE CARDS: each row of YtjgpcmjnmddbkaaDoorRows.lean that lists a variable, with what it lists TIED to the program's text (the seventh form; the later family's looks); each row that meets fmt, with fmt's text TOLD by the authors' own Lean function (tested against real Go, not proved from fmt's source: count such statements apart). THE CARD IS WHAT COUNTS. Prove the row's statement (the work); the ties are given (YtjgpcmjnmddbkaaDoorTie.lean); close each card by the builder's one call (the guide's Derived/Test/ToyasCard.lean, 'card_holds'). Laid BY PROGRAM, IN A SANDBOX (cutbox-door.mjs). By AI agents, Wed Nov 11 2026. No macro, syntax, notation, axiom, sorry.
-/
import Derived.Test.YtjgpcmjnmddbkaaDoorRows
import GoSem.ClaimSeven
namespace Go.Proofs.YtjgpcmjnmddbkaaDoor
namespace Rows

/-- THE TIED CARD OF 'laws.FnExactDecimal'. -/
def fnExactDecimalCard : Claim7 := { stood := { row := fnExactDecimalRow, standIns := [], harness := (true, "7e154076c8639baed9ae40d2cce0aca35f6a47951ebb701df69fd47cf433c794"), looks := true }, kinds := [], alts := [], laidByText := true, laidKinds := [.data, .data, .data], laidTests := true, laidLooks := .later }
def FnExactDecimalCardSaid : Prop := Claim7.holds Tryd.pinned (.plain (OpenSpec.ofChange fnExactDecimalSpec)) fnExactDecimalCard

/-- THE TIED CARD OF 'laws.FnExactReadDecimal'. -/
def fnExactReadDecimalCard : Claim7 := { stood := { row := fnExactReadDecimalRow, standIns := [], harness := (true, "7e154076c8639baed9ae40d2cce0aca35f6a47951ebb701df69fd47cf433c794"), looks := true }, kinds := [], alts := [], laidByText := true, laidKinds := [.data, .data, .data, .sentinel, .sentinel], laidTests := true, laidLooks := .later }
def FnExactReadDecimalCardSaid : Prop := Claim7.holds Tryd.pinned (.plain (OpenSpec.ofChange fnExactReadDecimalSpec)) fnExactReadDecimalCard

/-- THE TIED CARD OF 'laws.FnExactSplitWords'. -/
def fnExactSplitWordsCard : Claim7 := { stood := { row := fnExactSplitWordsRow, standIns := [], harness := (true, "7e154076c8639baed9ae40d2cce0aca35f6a47951ebb701df69fd47cf433c794"), looks := true }, kinds := [], alts := [], laidByText := true, laidKinds := [.data, .pinned], laidTests := true, laidLooks := .later }
def FnExactSplitWordsCardSaid : Prop := Claim7.holds Tryd.pinned (.plain (OpenSpec.ofChange fnExactSplitWordsSpec)) fnExactSplitWordsCard

/-- THE TIED CARD OF 'laws.FnExactTilesText'. -/
def fnExactTilesTextCard : Claim7 := { stood := { row := fnExactTilesTextRow, standIns := [], harness := (true, "7e154076c8639baed9ae40d2cce0aca35f6a47951ebb701df69fd47cf433c794"), looks := true }, kinds := [], alts := [], laidByText := true, laidKinds := [.data, .data, .data], laidTests := true, laidLooks := .later }
def FnExactTilesTextCardSaid : Prop := Claim7.holds Tryd.pinned (.plain (OpenSpec.ofChange fnExactTilesTextSpec)) fnExactTilesTextCard

/-- THE TIED CARD OF 'laws.FnExactReadTiles'. -/
def fnExactReadTilesCard : Claim7 := { stood := { row := fnExactReadTilesRow, standIns := [], harness := (true, "7e154076c8639baed9ae40d2cce0aca35f6a47951ebb701df69fd47cf433c794"), looks := true }, kinds := [], alts := [], laidByText := true, laidKinds := [.data, .data, .data, .data, .sentinel, .sentinel, .pinned], laidTests := true, laidLooks := .later }
def FnExactReadTilesCardSaid : Prop := Claim7.holds Tryd.pinned (.plain (OpenSpec.ofChange fnExactReadTilesSpec)) fnExactReadTilesCard

/-- THE TIED CARD OF 'laws.FnExactStandardTiles'. -/
def fnExactStandardTilesCard : Claim7 := { stood := { row := fnExactStandardTilesRow, standIns := [], harness := (true, "7e154076c8639baed9ae40d2cce0aca35f6a47951ebb701df69fd47cf433c794"), looks := true }, kinds := [], alts := [], laidByText := true, laidKinds := [.data, .data, .data, .data, .sentinel, .sentinel, .pinned], laidTests := true, laidLooks := .later }
def FnExactStandardTilesCardSaid : Prop := Claim7.holds Tryd.pinned (.plain (OpenSpec.ofChange fnExactStandardTilesSpec)) fnExactStandardTilesCard

/-- THE SECOND FORM's CARD OF 'laws.FnExactDecimal'. -/
def fnExactDecimalUptoCard : Claim7 := { stood := { row := fnExactDecimalUptoRow, standIns := [], harness := (true, "7e154076c8639baed9ae40d2cce0aca35f6a47951ebb701df69fd47cf433c794"), looks := true }, kinds := [], alts := [], laidByText := true, laidKinds := [.data, .data, .data], laidTests := true, laidLooks := .later }
def FnExactDecimalUptoCardSaid : Prop := Claim7.holds Tryd.pinned (.plain (OpenSpec.upto fnExactDecimalSpec)) fnExactDecimalUptoCard

/-- THE SECOND FORM's CARD OF 'laws.FnExactReadDecimal'. -/
def fnExactReadDecimalUptoCard : Claim7 := { stood := { row := fnExactReadDecimalUptoRow, standIns := [], harness := (true, "7e154076c8639baed9ae40d2cce0aca35f6a47951ebb701df69fd47cf433c794"), looks := true }, kinds := [], alts := [], laidByText := true, laidKinds := [.data, .data, .data, .sentinel, .sentinel], laidTests := true, laidLooks := .later }
def FnExactReadDecimalUptoCardSaid : Prop := Claim7.holds Tryd.pinned (.plain (OpenSpec.upto fnExactReadDecimalSpec)) fnExactReadDecimalUptoCard

/-- THE SECOND FORM's CARD OF 'laws.FnExactSplitWords'. -/
def fnExactSplitWordsUptoCard : Claim7 := { stood := { row := fnExactSplitWordsUptoRow, standIns := [], harness := (true, "7e154076c8639baed9ae40d2cce0aca35f6a47951ebb701df69fd47cf433c794"), looks := true }, kinds := [], alts := [], laidByText := true, laidKinds := [.data, .pinned], laidTests := true, laidLooks := .later }
def FnExactSplitWordsUptoCardSaid : Prop := Claim7.holds Tryd.pinned (.plain (OpenSpec.upto fnExactSplitWordsSpec)) fnExactSplitWordsUptoCard

/-- THE SECOND FORM's CARD OF 'laws.FnExactTilesText'. -/
def fnExactTilesTextUptoCard : Claim7 := { stood := { row := fnExactTilesTextUptoRow, standIns := [], harness := (true, "7e154076c8639baed9ae40d2cce0aca35f6a47951ebb701df69fd47cf433c794"), looks := true }, kinds := [], alts := [], laidByText := true, laidKinds := [.data, .data, .data], laidTests := true, laidLooks := .later }
def FnExactTilesTextUptoCardSaid : Prop := Claim7.holds Tryd.pinned (.plain (OpenSpec.upto fnExactTilesTextSpec)) fnExactTilesTextUptoCard

/-- THE SECOND FORM's CARD OF 'laws.FnExactReadTiles'. -/
def fnExactReadTilesUptoCard : Claim7 := { stood := { row := fnExactReadTilesUptoRow, standIns := [], harness := (true, "7e154076c8639baed9ae40d2cce0aca35f6a47951ebb701df69fd47cf433c794"), looks := true }, kinds := [], alts := [], laidByText := true, laidKinds := [.data, .data, .data, .data, .sentinel, .sentinel, .pinned], laidTests := true, laidLooks := .later }
def FnExactReadTilesUptoCardSaid : Prop := Claim7.holds Tryd.pinned (.plain (OpenSpec.upto fnExactReadTilesSpec)) fnExactReadTilesUptoCard

/-- THE SECOND FORM's CARD OF 'laws.FnExactStandardTiles'. -/
def fnExactStandardTilesUptoCard : Claim7 := { stood := { row := fnExactStandardTilesUptoRow, standIns := [], harness := (true, "7e154076c8639baed9ae40d2cce0aca35f6a47951ebb701df69fd47cf433c794"), looks := true }, kinds := [], alts := [], laidByText := true, laidKinds := [.data, .data, .data, .data, .sentinel, .sentinel, .pinned], laidTests := true, laidLooks := .later }
def FnExactStandardTilesUptoCardSaid : Prop := Claim7.holds Tryd.pinned (.plain (OpenSpec.upto fnExactStandardTilesSpec)) fnExactStandardTilesUptoCard
end Rows
end Go.Proofs.YtjgpcmjnmddbkaaDoor
