/-
  DERIVED. GIVEN WITH THE SEED: THE CARDS: each row of YtgefgdkejenhnaaGreatDoorRows.lean that lists a variable, with what it lists TIED to the program's text (the seventh form; the later family's looks); each row that meets fmt, with fmt's text TOLD by the authors' own Lean function (tested against real Go, not proved from fmt's source: count such statements apart). THE CARD IS WHAT COUNTS. Prove the row's statement (the work); the ties are given (YtgefgdkejenhnaaGreatDoorTie.lean); close each card by the builder's one call (the guide's Derived/Test/ToyasCard.lean, 'card_holds'). Laid BY PROGRAM, IN A SANDBOX (cutbox-door.mjs). By AI agents, Wed Nov 11 2026. No macro, syntax, notation, axiom, sorry.
-/
import Derived.Test.YtgefgdkejenhnaaGreatDoorRows
import GoSem.ClaimSeven
namespace Go.Proofs.YtgefgdkejenhnaaGreatDoor
namespace Rows

/-- THE TIED CARD OF 'laws.FnExactDerivedWords'. -/
def fnExactDerivedWordsCard : Claim7 := { stood := { row := fnExactDerivedWordsRow, standIns := [], harness := (true, "5deb8f3dbdc566c983d9c2cb4c3af1029b8b872bb4ce0cce9315a3122c008cd8"), looks := false }, kinds := [], alts := [], laidByText := true, laidKinds := [.data, .pinned], laidTests := true, laidLooks := .later }
def FnExactDerivedWordsCardSaid : Prop := Claim7.holds Tryz.pinned (.plain (OpenSpec.ofChange fnExactDerivedWordsSpec)) fnExactDerivedWordsCard

/-- THE TIED CARD OF 'laws.FnExactCompileLexicon'. -/
def fnExactCompileLexiconCard : Claim7 := { stood := { row := fnExactCompileLexiconRow, standIns := [], harness := (true, "5deb8f3dbdc566c983d9c2cb4c3af1029b8b872bb4ce0cce9315a3122c008cd8"), looks := false }, kinds := [], alts := [], laidByText := true, laidKinds := [.data, .pinned], laidTests := true, laidLooks := .later }
def FnExactCompileLexiconCardSaid : Prop := Claim7.holds Tryz.pinned (.plain (OpenSpec.ofChange fnExactCompileLexiconSpec)) fnExactCompileLexiconCard

/-- THE TIED CARD OF 'laws.FnGrammars'. -/
def fnGrammarsCard : Claim7 := { stood := { row := fnGrammarsRow, standIns := [], harness := (true, "5deb8f3dbdc566c983d9c2cb4c3af1029b8b872bb4ce0cce9315a3122c008cd8"), looks := false }, kinds := [], alts := [], laidByText := true, laidKinds := [.data, .pinned], laidTests := true, laidLooks := .later }
def FnGrammarsCardSaid : Prop := Claim7.holds Tryz.pinned (.plain (OpenSpec.ofChange fnGrammarsSpec)) fnGrammarsCard

/-- THE SECOND FORM's CARD OF 'laws.FnExactDerivedWords'. -/
def fnExactDerivedWordsUptoCard : Claim7 := { stood := { row := fnExactDerivedWordsUptoRow, standIns := [], harness := (true, "5deb8f3dbdc566c983d9c2cb4c3af1029b8b872bb4ce0cce9315a3122c008cd8"), looks := false }, kinds := [], alts := [], laidByText := true, laidKinds := [.data, .pinned], laidTests := true, laidLooks := .later }
def FnExactDerivedWordsUptoCardSaid : Prop := Claim7.holds Tryz.pinned (.plain (OpenSpec.upto fnExactDerivedWordsSpec)) fnExactDerivedWordsUptoCard

/-- THE SECOND FORM's CARD OF 'laws.FnExactCompileLexicon'. -/
def fnExactCompileLexiconUptoCard : Claim7 := { stood := { row := fnExactCompileLexiconUptoRow, standIns := [], harness := (true, "5deb8f3dbdc566c983d9c2cb4c3af1029b8b872bb4ce0cce9315a3122c008cd8"), looks := false }, kinds := [], alts := [], laidByText := true, laidKinds := [.data, .pinned], laidTests := true, laidLooks := .later }
def FnExactCompileLexiconUptoCardSaid : Prop := Claim7.holds Tryz.pinned (.plain (OpenSpec.upto fnExactCompileLexiconSpec)) fnExactCompileLexiconUptoCard

/-- THE SECOND FORM's CARD OF 'laws.FnGrammars'. -/
def fnGrammarsUptoCard : Claim7 := { stood := { row := fnGrammarsUptoRow, standIns := [], harness := (true, "5deb8f3dbdc566c983d9c2cb4c3af1029b8b872bb4ce0cce9315a3122c008cd8"), looks := false }, kinds := [], alts := [], laidByText := true, laidKinds := [.data, .pinned], laidTests := true, laidLooks := .later }
def FnGrammarsUptoCardSaid : Prop := Claim7.holds Tryz.pinned (.plain (OpenSpec.upto fnGrammarsSpec)) fnGrammarsUptoCard
end Rows
end Go.Proofs.YtgefgdkejenhnaaGreatDoor
