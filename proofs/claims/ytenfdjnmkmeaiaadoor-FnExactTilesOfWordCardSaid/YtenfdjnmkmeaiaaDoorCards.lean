/-
  DERIVED. GIVEN WITH THE SEED: THE CARDS: each row of YtenfdjnmkmeaiaaDoorRows.lean that lists a variable, with what it lists TIED to the program's text (the seventh form; the later family's looks); each row that meets fmt, with fmt's text TOLD by the authors' own Lean function (tested against real Go, not proved from fmt's source: count such statements apart). THE CARD IS WHAT COUNTS. Prove the row's statement (the work); the ties are given (YtenfdjnmkmeaiaaDoorTie.lean); close each card by the builder's one call (the guide's Derived/Test/ToyasCard.lean, 'card_holds'). Laid BY PROGRAM, IN A SANDBOX (cutbox-door.mjs). By AI agents, Wed Nov 11 2026. No macro, syntax, notation, axiom, sorry.
-/
import Derived.Test.YtenfdjnmkmeaiaaDoorRows
import GoSem.ClaimSeven
namespace Go.Proofs.YtenfdjnmkmeaiaaDoor
namespace Rows

/-- THE TIED CARD OF 'laws.FnExactTilesOfWord'. -/
def fnExactTilesOfWordCard : Claim7 := { stood := { row := fnExactTilesOfWordRow, standIns := [], harness := (true, "2202b129037f6532dbc97c843044fe3c8ae25949b2d49b59a34970a4caf4e500"), looks := false }, kinds := [], alts := [], laidByText := true, laidKinds := [.data, .pinned, .pinned], laidTests := true, laidLooks := .later }
def FnExactTilesOfWordCardSaid : Prop := Claim7.holds Tryd.pinned (.plain (OpenSpec.ofChange fnExactTilesOfWordSpec)) fnExactTilesOfWordCard

/-- THE SECOND FORM's CARD OF 'laws.FnExactTilesOfWord'. -/
def fnExactTilesOfWordUptoCard : Claim7 := { stood := { row := fnExactTilesOfWordUptoRow, standIns := [], harness := (true, "2202b129037f6532dbc97c843044fe3c8ae25949b2d49b59a34970a4caf4e500"), looks := false }, kinds := [], alts := [], laidByText := true, laidKinds := [.data, .pinned, .pinned], laidTests := true, laidLooks := .later }
def FnExactTilesOfWordUptoCardSaid : Prop := Claim7.holds Tryd.pinned (.plain (OpenSpec.upto fnExactTilesOfWordSpec)) fnExactTilesOfWordUptoCard
end Rows
end Go.Proofs.YtenfdjnmkmeaiaaDoor
