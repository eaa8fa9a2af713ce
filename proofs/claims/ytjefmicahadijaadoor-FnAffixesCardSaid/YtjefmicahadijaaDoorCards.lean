/-
  DERIVED. GIVEN WITH THE SEED: THE CARDS: each row of YtjefmicahadijaaDoorRows.lean that lists a variable, with what it lists TIED to the program's text (the seventh form; the later family's looks); each row that meets fmt, with fmt's text TOLD by the authors' own Lean function (tested against real Go, not proved from fmt's source: count such statements apart). THE CARD IS WHAT COUNTS. Prove the row's statement (the work); the ties are given (YtjefmicahadijaaDoorTie.lean); close each card by the builder's one call (the guide's Derived/Test/ToyasCard.lean, 'card_holds'). Laid BY PROGRAM, IN A SANDBOX (cutbox-door.mjs). By AI agents, Wed Nov 11 2026. No macro, syntax, notation, axiom, sorry.
-/
import Derived.Test.YtjefmicahadijaaDoorRows
import GoSem.ClaimSeven
namespace Go.Proofs.YtjefmicahadijaaDoor
namespace Rows

/-- THE TIED CARD OF 'laws.FnExactValidAffix'. -/
def fnExactValidAffixCard : Claim7 := { stood := { row := fnExactValidAffixRow, standIns := [], harness := (true, "83fdfcac07b4608faad427d63bdcaee19084c6247cd7546447dc9fe137e24c17"), looks := false }, kinds := [], alts := [], laidByText := true, laidKinds := [.data, .pinned], laidTests := true, laidLooks := .later }
def FnExactValidAffixCardSaid : Prop := Claim7.holds Tryd.pinned (.plain (OpenSpec.ofChange fnExactValidAffixSpec)) fnExactValidAffixCard

/-- THE TIED CARD OF 'laws.FnExactMatchesAffix'. -/
def fnExactMatchesAffixCard : Claim7 := { stood := { row := fnExactMatchesAffixRow, standIns := [], harness := (true, "83fdfcac07b4608faad427d63bdcaee19084c6247cd7546447dc9fe137e24c17"), looks := false }, kinds := [], alts := [], laidByText := true, laidKinds := [.data, .pinned], laidTests := true, laidLooks := .later }
def FnExactMatchesAffixCardSaid : Prop := Claim7.holds Tryd.pinned (.plain (OpenSpec.ofChange fnExactMatchesAffixSpec)) fnExactMatchesAffixCard

/-- THE TIED CARD OF 'laws.FnExactApplyAffix'. -/
def fnExactApplyAffixCard : Claim7 := { stood := { row := fnExactApplyAffixRow, standIns := [], harness := (true, "83fdfcac07b4608faad427d63bdcaee19084c6247cd7546447dc9fe137e24c17"), looks := false }, kinds := [], alts := [], laidByText := true, laidKinds := [.data, .pinned], laidTests := true, laidLooks := .later }
def FnExactApplyAffixCardSaid : Prop := Claim7.holds Tryd.pinned (.plain (OpenSpec.ofChange fnExactApplyAffixSpec)) fnExactApplyAffixCard

/-- THE TIED CARD OF 'laws.FnExactUndoAffix'. -/
def fnExactUndoAffixCard : Claim7 := { stood := { row := fnExactUndoAffixRow, standIns := [], harness := (true, "83fdfcac07b4608faad427d63bdcaee19084c6247cd7546447dc9fe137e24c17"), looks := false }, kinds := [], alts := [], laidByText := true, laidKinds := [.data, .pinned], laidTests := true, laidLooks := .later }
def FnExactUndoAffixCardSaid : Prop := Claim7.holds Tryd.pinned (.plain (OpenSpec.ofChange fnExactUndoAffixSpec)) fnExactUndoAffixCard

/-- THE TIED CARD OF 'laws.FnAffixes'. -/
def fnAffixesCard : Claim7 := { stood := { row := fnAffixesRow, standIns := [], harness := (true, "83fdfcac07b4608faad427d63bdcaee19084c6247cd7546447dc9fe137e24c17"), looks := false }, kinds := [], alts := [], laidByText := true, laidKinds := [.data, .pinned], laidTests := true, laidLooks := .later }
def FnAffixesCardSaid : Prop := Claim7.holds Tryd.pinned (.plain (OpenSpec.ofChange fnAffixesSpec)) fnAffixesCard

/-- THE TIED CARD OF 'laws.FnExactValidGrammar'. -/
def fnExactValidGrammarCard : Claim7 := { stood := { row := fnExactValidGrammarRow, standIns := [], harness := (true, "83fdfcac07b4608faad427d63bdcaee19084c6247cd7546447dc9fe137e24c17"), looks := false }, kinds := [], alts := [], laidByText := true, laidKinds := [.data, .pinned], laidTests := true, laidLooks := .later }
def FnExactValidGrammarCardSaid : Prop := Claim7.holds Tryd.pinned (.plain (OpenSpec.ofChange fnExactValidGrammarSpec)) fnExactValidGrammarCard

/-- THE TIED CARD OF 'laws.FnExactWordOf'. -/
def fnExactWordOfCard : Claim7 := { stood := { row := fnExactWordOfRow, standIns := [], harness := (true, "83fdfcac07b4608faad427d63bdcaee19084c6247cd7546447dc9fe137e24c17"), looks := false }, kinds := [], alts := [], laidByText := true, laidKinds := [.data, .pinned], laidTests := true, laidLooks := .later }
def FnExactWordOfCardSaid : Prop := Claim7.holds Tryd.pinned (.plain (OpenSpec.ofChange fnExactWordOfSpec)) fnExactWordOfCard

/-- THE TIED CARD OF 'laws.FnExactDerivationsOf'. -/
def fnExactDerivationsOfCard : Claim7 := { stood := { row := fnExactDerivationsOfRow, standIns := [], harness := (true, "83fdfcac07b4608faad427d63bdcaee19084c6247cd7546447dc9fe137e24c17"), looks := false }, kinds := [], alts := [], laidByText := true, laidKinds := [.data, .pinned], laidTests := true, laidLooks := .later }
def FnExactDerivationsOfCardSaid : Prop := Claim7.holds Tryd.pinned (.plain (OpenSpec.ofChange fnExactDerivationsOfSpec)) fnExactDerivationsOfCard

/-- THE SECOND FORM's CARD OF 'laws.FnExactValidAffix'. -/
def fnExactValidAffixUptoCard : Claim7 := { stood := { row := fnExactValidAffixUptoRow, standIns := [], harness := (true, "83fdfcac07b4608faad427d63bdcaee19084c6247cd7546447dc9fe137e24c17"), looks := false }, kinds := [], alts := [], laidByText := true, laidKinds := [.data, .pinned], laidTests := true, laidLooks := .later }
def FnExactValidAffixUptoCardSaid : Prop := Claim7.holds Tryd.pinned (.plain (OpenSpec.upto fnExactValidAffixSpec)) fnExactValidAffixUptoCard

/-- THE SECOND FORM's CARD OF 'laws.FnExactMatchesAffix'. -/
def fnExactMatchesAffixUptoCard : Claim7 := { stood := { row := fnExactMatchesAffixUptoRow, standIns := [], harness := (true, "83fdfcac07b4608faad427d63bdcaee19084c6247cd7546447dc9fe137e24c17"), looks := false }, kinds := [], alts := [], laidByText := true, laidKinds := [.data, .pinned], laidTests := true, laidLooks := .later }
def FnExactMatchesAffixUptoCardSaid : Prop := Claim7.holds Tryd.pinned (.plain (OpenSpec.upto fnExactMatchesAffixSpec)) fnExactMatchesAffixUptoCard

/-- THE SECOND FORM's CARD OF 'laws.FnExactApplyAffix'. -/
def fnExactApplyAffixUptoCard : Claim7 := { stood := { row := fnExactApplyAffixUptoRow, standIns := [], harness := (true, "83fdfcac07b4608faad427d63bdcaee19084c6247cd7546447dc9fe137e24c17"), looks := false }, kinds := [], alts := [], laidByText := true, laidKinds := [.data, .pinned], laidTests := true, laidLooks := .later }
def FnExactApplyAffixUptoCardSaid : Prop := Claim7.holds Tryd.pinned (.plain (OpenSpec.upto fnExactApplyAffixSpec)) fnExactApplyAffixUptoCard

/-- THE SECOND FORM's CARD OF 'laws.FnExactUndoAffix'. -/
def fnExactUndoAffixUptoCard : Claim7 := { stood := { row := fnExactUndoAffixUptoRow, standIns := [], harness := (true, "83fdfcac07b4608faad427d63bdcaee19084c6247cd7546447dc9fe137e24c17"), looks := false }, kinds := [], alts := [], laidByText := true, laidKinds := [.data, .pinned], laidTests := true, laidLooks := .later }
def FnExactUndoAffixUptoCardSaid : Prop := Claim7.holds Tryd.pinned (.plain (OpenSpec.upto fnExactUndoAffixSpec)) fnExactUndoAffixUptoCard

/-- THE SECOND FORM's CARD OF 'laws.FnAffixes'. -/
def fnAffixesUptoCard : Claim7 := { stood := { row := fnAffixesUptoRow, standIns := [], harness := (true, "83fdfcac07b4608faad427d63bdcaee19084c6247cd7546447dc9fe137e24c17"), looks := false }, kinds := [], alts := [], laidByText := true, laidKinds := [.data, .pinned], laidTests := true, laidLooks := .later }
def FnAffixesUptoCardSaid : Prop := Claim7.holds Tryd.pinned (.plain (OpenSpec.upto fnAffixesSpec)) fnAffixesUptoCard

/-- THE SECOND FORM's CARD OF 'laws.FnExactValidGrammar'. -/
def fnExactValidGrammarUptoCard : Claim7 := { stood := { row := fnExactValidGrammarUptoRow, standIns := [], harness := (true, "83fdfcac07b4608faad427d63bdcaee19084c6247cd7546447dc9fe137e24c17"), looks := false }, kinds := [], alts := [], laidByText := true, laidKinds := [.data, .pinned], laidTests := true, laidLooks := .later }
def FnExactValidGrammarUptoCardSaid : Prop := Claim7.holds Tryd.pinned (.plain (OpenSpec.upto fnExactValidGrammarSpec)) fnExactValidGrammarUptoCard

/-- THE SECOND FORM's CARD OF 'laws.FnExactWordOf'. -/
def fnExactWordOfUptoCard : Claim7 := { stood := { row := fnExactWordOfUptoRow, standIns := [], harness := (true, "83fdfcac07b4608faad427d63bdcaee19084c6247cd7546447dc9fe137e24c17"), looks := false }, kinds := [], alts := [], laidByText := true, laidKinds := [.data, .pinned], laidTests := true, laidLooks := .later }
def FnExactWordOfUptoCardSaid : Prop := Claim7.holds Tryd.pinned (.plain (OpenSpec.upto fnExactWordOfSpec)) fnExactWordOfUptoCard

/-- THE SECOND FORM's CARD OF 'laws.FnExactDerivationsOf'. -/
def fnExactDerivationsOfUptoCard : Claim7 := { stood := { row := fnExactDerivationsOfUptoRow, standIns := [], harness := (true, "83fdfcac07b4608faad427d63bdcaee19084c6247cd7546447dc9fe137e24c17"), looks := false }, kinds := [], alts := [], laidByText := true, laidKinds := [.data, .pinned], laidTests := true, laidLooks := .later }
def FnExactDerivationsOfUptoCardSaid : Prop := Claim7.holds Tryd.pinned (.plain (OpenSpec.upto fnExactDerivationsOfSpec)) fnExactDerivationsOfUptoCard
end Rows
end Go.Proofs.YtjefmicahadijaaDoor
