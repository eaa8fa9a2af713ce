/-
  DERIVED. GIVEN WITH THE SEED: THE CARDS: each row of YtndfhmphlomeiaaGreatDoorRows.lean that lists a variable, with what it lists TIED to the program's text (the seventh form; the later family's looks); each row that meets fmt, with fmt's text TOLD by the authors' own Lean function (tested against real Go, not proved from fmt's source: count such statements apart). THE CARD IS WHAT COUNTS. Prove the row's statement (the work); the ties are given (YtndfhmphlomeiaaGreatDoorTie.lean); close each card by the builder's one call (the guide's Derived/Test/ToyasCard.lean, 'card_holds'). Laid BY PROGRAM, IN A SANDBOX (cutbox-door.mjs). By AI agents, Wed Nov 11 2026. No macro, syntax, notation, axiom, sorry.
-/
import Derived.Test.YtndfhmphlomeiaaGreatDoorRows
import GoSem.ClaimSeven
namespace Go.Proofs.YtndfhmphlomeiaaGreatDoor
namespace Rows

/-- THE TIED CARD OF 'laws.FnGrammars'. -/
def fnGrammarsCard : Claim7 := { stood := { row := fnGrammarsRow, standIns := [], harness := (true, "3ea6f52b47e29b8c08399dce0100f15162377233552e2f4dff72e594f1870b31"), looks := false }, kinds := [], alts := [], laidByText := true, laidKinds := [.data, .pinned], laidTests := true, laidLooks := .later }
def FnGrammarsCardSaid : Prop := Claim7.holds Tryz.pinned (.plain (OpenSpec.ofChange fnGrammarsSpec)) fnGrammarsCard

/-- THE SECOND FORM's CARD OF 'laws.FnGrammars'. -/
def fnGrammarsUptoCard : Claim7 := { stood := { row := fnGrammarsUptoRow, standIns := [], harness := (true, "3ea6f52b47e29b8c08399dce0100f15162377233552e2f4dff72e594f1870b31"), looks := false }, kinds := [], alts := [], laidByText := true, laidKinds := [.data, .pinned], laidTests := true, laidLooks := .later }
def FnGrammarsUptoCardSaid : Prop := Claim7.holds Tryz.pinned (.plain (OpenSpec.upto fnGrammarsSpec)) fnGrammarsUptoCard
end Rows
end Go.Proofs.YtndfhmphlomeiaaGreatDoor
