/-
  DERIVED. GIVEN WITH THE SEED: THE CARDS: each row of YtinmmbnlflmobaaGreatDoorRows.lean that lists a variable, with what it lists TIED to the program's text (the seventh form; the later family's looks); each row that meets fmt, with fmt's text TOLD by the authors' own Lean function (tested against real Go, not proved from fmt's source: count such statements apart). THE CARD IS WHAT COUNTS. Prove the row's statement (the work); the ties are given (YtinmmbnlflmobaaGreatDoorTie.lean); close each card by the builder's one call (the guide's Derived/Test/ToyasCard.lean, 'card_holds'). Laid BY PROGRAM, IN A SANDBOX (cutbox-door.mjs). By AI agents, Wed Nov 11 2026. No macro, syntax, notation, axiom, sorry.
-/
import Derived.Test.YtinmmbnlflmobaaGreatDoorRows
import GoSem.ClaimSeven
namespace Go.Proofs.YtinmmbnlflmobaaGreatDoor
namespace Rows

/-- THE TIED CARD OF 'laws.FnTiles'. -/
def fnTilesCard : Claim7 := { stood := { row := fnTilesRow, standIns := [], harness := (true, "f64f21c2d3a12cefe092bf5591e1fc6de699eb73e68a4d6e84764f56c6205af3"), looks := true }, kinds := [], alts := [], laidByText := true, laidKinds := [.data, .data, .data, .data, .sentinel, .sentinel, .pinned], laidTests := true, laidLooks := .later }
def FnTilesCardSaid : Prop := Claim7.holds Tryz.pinned (.plain (OpenSpec.ofChange fnTilesSpec)) fnTilesCard

/-- THE SECOND FORM's CARD OF 'laws.FnTiles'. -/
def fnTilesUptoCard : Claim7 := { stood := { row := fnTilesUptoRow, standIns := [], harness := (true, "f64f21c2d3a12cefe092bf5591e1fc6de699eb73e68a4d6e84764f56c6205af3"), looks := true }, kinds := [], alts := [], laidByText := true, laidKinds := [.data, .data, .data, .data, .sentinel, .sentinel, .pinned], laidTests := true, laidLooks := .later }
def FnTilesUptoCardSaid : Prop := Claim7.holds Tryz.pinned (.plain (OpenSpec.upto fnTilesSpec)) fnTilesUptoCard
end Rows
end Go.Proofs.YtinmmbnlflmobaaGreatDoor
