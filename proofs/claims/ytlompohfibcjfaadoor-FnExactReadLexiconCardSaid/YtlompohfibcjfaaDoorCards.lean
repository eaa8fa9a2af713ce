/-
  DERIVED. GIVEN WITH THE SEED: THE CARDS: each row of YtlompohfibcjfaaDoorRows.lean that lists a variable, with what it lists TIED to the program's text (the seventh form; the later family's looks); each row that meets fmt, with fmt's text TOLD by the authors' own Lean function (tested against real Go, not proved from fmt's source: count such statements apart). THE CARD IS WHAT COUNTS. Prove the row's statement (the work); the ties are given (YtlompohfibcjfaaDoorTie.lean); close each card by the builder's one call (the guide's Derived/Test/ToyasCard.lean, 'card_holds'). Laid BY PROGRAM, IN A SANDBOX (cutbox-door.mjs). By AI agents, Wed Nov 11 2026. No macro, syntax, notation, axiom, sorry.
-/
import Derived.Test.YtlompohfibcjfaaDoorRows
import GoSem.ClaimSeven
namespace Go.Proofs.YtlompohfibcjfaaDoor
namespace Rows

/-- THE TIED CARD OF 'laws.FnExactReadLexicon'. -/
def fnExactReadLexiconCard : Claim7 := { stood := { row := fnExactReadLexiconRow, standIns := [], harness := (true, "c058839f90631275c95e924af8ca6d4fe6978b3b073b3e34250783ae5741b2c7"), looks := false }, kinds := [], alts := [], laidByText := true, laidKinds := [.data, .pinned], laidTests := true, laidLooks := .later }
def FnExactReadLexiconCardSaid : Prop := Claim7.holds Tryd.pinned (.plain (OpenSpec.ofChange fnExactReadLexiconSpec)) fnExactReadLexiconCard

/-- THE SECOND FORM's CARD OF 'laws.FnExactReadLexicon'. -/
def fnExactReadLexiconUptoCard : Claim7 := { stood := { row := fnExactReadLexiconUptoRow, standIns := [], harness := (true, "c058839f90631275c95e924af8ca6d4fe6978b3b073b3e34250783ae5741b2c7"), looks := false }, kinds := [], alts := [], laidByText := true, laidKinds := [.data, .pinned], laidTests := true, laidLooks := .later }
def FnExactReadLexiconUptoCardSaid : Prop := Claim7.holds Tryd.pinned (.plain (OpenSpec.upto fnExactReadLexiconSpec)) fnExactReadLexiconUptoCard
end Rows
end Go.Proofs.YtlompohfibcjfaaDoor
