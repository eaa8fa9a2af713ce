/-
  DERIVED. GIVEN WITH THE SEED: THE CARDS: each row of YtgefgdkejenhnaaDoorRows.lean that lists a variable, with what it lists TIED to the program's text (the seventh form; the later family's looks); each row that meets fmt, with fmt's text TOLD by the authors' own Lean function (tested against real Go, not proved from fmt's source: count such statements apart). THE CARD IS WHAT COUNTS. Prove the row's statement (the work); the ties are given (YtgefgdkejenhnaaDoorTie.lean); close each card by the builder's one call (the guide's Derived/Test/ToyasCard.lean, 'card_holds'). Laid BY PROGRAM, IN A SANDBOX (cutbox-door.mjs). By AI agents, Wed Nov 11 2026. No macro, syntax, notation, axiom, sorry.
-/
import Derived.Test.YtgefgdkejenhnaaDoorRows
import GoSem.ClaimSeven
namespace Go.Proofs.YtgefgdkejenhnaaDoor
namespace Rows

/-- THE TIED CARD OF 'laws.FnExactValidGrammar'. -/
def fnExactValidGrammarCard : Claim7 := { stood := { row := fnExactValidGrammarRow, standIns := [], harness := (true, "af829414c15e4f64bc174ba6f0658db67e948a055b0501301af12220bb6dee4b"), looks := false }, kinds := [], alts := [], laidByText := true, laidKinds := [.data, .pinned], laidTests := true, laidLooks := .later }
def FnExactValidGrammarCardSaid : Prop := Claim7.holds Tryd.pinned (.plain (OpenSpec.ofChange fnExactValidGrammarSpec)) fnExactValidGrammarCard

/-- THE TIED CARD OF 'laws.FnExactWordOf'. -/
def fnExactWordOfCard : Claim7 := { stood := { row := fnExactWordOfRow, standIns := [], harness := (true, "af829414c15e4f64bc174ba6f0658db67e948a055b0501301af12220bb6dee4b"), looks := false }, kinds := [], alts := [], laidByText := true, laidKinds := [.data, .pinned], laidTests := true, laidLooks := .later }
def FnExactWordOfCardSaid : Prop := Claim7.holds Tryd.pinned (.plain (OpenSpec.ofChange fnExactWordOfSpec)) fnExactWordOfCard

/-- THE TIED CARD OF 'laws.FnExactDerivationsOf'. -/
def fnExactDerivationsOfCard : Claim7 := { stood := { row := fnExactDerivationsOfRow, standIns := [], harness := (true, "af829414c15e4f64bc174ba6f0658db67e948a055b0501301af12220bb6dee4b"), looks := false }, kinds := [], alts := [], laidByText := true, laidKinds := [.data, .pinned], laidTests := true, laidLooks := .later }
def FnExactDerivationsOfCardSaid : Prop := Claim7.holds Tryd.pinned (.plain (OpenSpec.ofChange fnExactDerivationsOfSpec)) fnExactDerivationsOfCard

/-- THE TIED CARD OF 'laws.FnExactGrammarText'. -/
def fnExactGrammarTextCard : Claim7 := { stood := { row := fnExactGrammarTextRow, standIns := [], harness := (true, "af829414c15e4f64bc174ba6f0658db67e948a055b0501301af12220bb6dee4b"), looks := false }, kinds := [], alts := [], laidByText := true, laidKinds := [.data, .pinned], laidTests := true, laidLooks := .later }
def FnExactGrammarTextCardSaid : Prop := Claim7.holds Tryd.pinned (.plain (OpenSpec.ofChange fnExactGrammarTextSpec)) fnExactGrammarTextCard

/-- THE TIED CARD OF 'laws.FnExactReadGrammar'. -/
def fnExactReadGrammarCard : Claim7 := { stood := { row := fnExactReadGrammarRow, standIns := [], harness := (true, "af829414c15e4f64bc174ba6f0658db67e948a055b0501301af12220bb6dee4b"), looks := false }, kinds := [], alts := [], laidByText := true, laidKinds := [.data, .pinned], laidTests := true, laidLooks := .later }
def FnExactReadGrammarCardSaid : Prop := Claim7.holds Tryd.pinned (.plain (OpenSpec.ofChange fnExactReadGrammarSpec)) fnExactReadGrammarCard

/-- THE SECOND FORM's CARD OF 'laws.FnExactValidGrammar'. -/
def fnExactValidGrammarUptoCard : Claim7 := { stood := { row := fnExactValidGrammarUptoRow, standIns := [], harness := (true, "af829414c15e4f64bc174ba6f0658db67e948a055b0501301af12220bb6dee4b"), looks := false }, kinds := [], alts := [], laidByText := true, laidKinds := [.data, .pinned], laidTests := true, laidLooks := .later }
def FnExactValidGrammarUptoCardSaid : Prop := Claim7.holds Tryd.pinned (.plain (OpenSpec.upto fnExactValidGrammarSpec)) fnExactValidGrammarUptoCard

/-- THE SECOND FORM's CARD OF 'laws.FnExactWordOf'. -/
def fnExactWordOfUptoCard : Claim7 := { stood := { row := fnExactWordOfUptoRow, standIns := [], harness := (true, "af829414c15e4f64bc174ba6f0658db67e948a055b0501301af12220bb6dee4b"), looks := false }, kinds := [], alts := [], laidByText := true, laidKinds := [.data, .pinned], laidTests := true, laidLooks := .later }
def FnExactWordOfUptoCardSaid : Prop := Claim7.holds Tryd.pinned (.plain (OpenSpec.upto fnExactWordOfSpec)) fnExactWordOfUptoCard

/-- THE SECOND FORM's CARD OF 'laws.FnExactDerivationsOf'. -/
def fnExactDerivationsOfUptoCard : Claim7 := { stood := { row := fnExactDerivationsOfUptoRow, standIns := [], harness := (true, "af829414c15e4f64bc174ba6f0658db67e948a055b0501301af12220bb6dee4b"), looks := false }, kinds := [], alts := [], laidByText := true, laidKinds := [.data, .pinned], laidTests := true, laidLooks := .later }
def FnExactDerivationsOfUptoCardSaid : Prop := Claim7.holds Tryd.pinned (.plain (OpenSpec.upto fnExactDerivationsOfSpec)) fnExactDerivationsOfUptoCard

/-- THE SECOND FORM's CARD OF 'laws.FnExactGrammarText'. -/
def fnExactGrammarTextUptoCard : Claim7 := { stood := { row := fnExactGrammarTextUptoRow, standIns := [], harness := (true, "af829414c15e4f64bc174ba6f0658db67e948a055b0501301af12220bb6dee4b"), looks := false }, kinds := [], alts := [], laidByText := true, laidKinds := [.data, .pinned], laidTests := true, laidLooks := .later }
def FnExactGrammarTextUptoCardSaid : Prop := Claim7.holds Tryd.pinned (.plain (OpenSpec.upto fnExactGrammarTextSpec)) fnExactGrammarTextUptoCard

/-- THE SECOND FORM's CARD OF 'laws.FnExactReadGrammar'. -/
def fnExactReadGrammarUptoCard : Claim7 := { stood := { row := fnExactReadGrammarUptoRow, standIns := [], harness := (true, "af829414c15e4f64bc174ba6f0658db67e948a055b0501301af12220bb6dee4b"), looks := false }, kinds := [], alts := [], laidByText := true, laidKinds := [.data, .pinned], laidTests := true, laidLooks := .later }
def FnExactReadGrammarUptoCardSaid : Prop := Claim7.holds Tryd.pinned (.plain (OpenSpec.upto fnExactReadGrammarSpec)) fnExactReadGrammarUptoCard
end Rows
end Go.Proofs.YtgefgdkejenhnaaDoor
