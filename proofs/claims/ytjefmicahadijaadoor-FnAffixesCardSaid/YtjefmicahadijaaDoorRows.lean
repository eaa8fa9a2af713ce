/-
  NARROWER THAN 'FOR EVERY INPUT', by the rows' own cells (each row's printed sentence says how): FnExactValidAffix: laid · FnExactMatchesAffix: laid · FnExactApplyAffix: laid · FnExactUndoAffix: laid · FnAffixes: laid · FnExactValidGrammar: laid · FnExactWordOf: laid · FnExactDerivationsOf: laid.
  DERIVED. THE GIVEN ROWS OF THIS SEAT. 8 by the template 'for every input the law returns true; each argument reads behind the call as it read before'; 0 by the template 'total and deterministic' (their statements: YtjefmicahadijaaDoorTotals.lean).
  GIVEN WITH THE SEED: the statements are not yours to turn. If you find one false, say at which input.
  Laid BY PROGRAM, IN A SANDBOX (cutbox-rows.mjs): the forced cells as the released guide's own fill.sh prints them over the translation c89f10471f1733cb… (all of the seat's roots in one cut). By AI agents, Wed Nov 11 2026. No macro, syntax, notation, axiom, sorry.
-/
import Derived.Test.YtjefmicahadijaaDoorChecked
import GoSem.PinnedTables
import GoSem.Claim
import GoSem.ClaimJoined
import GoSem.ClaimMapViews
import Derived.JoinedTies
import Derived.KernelRfl
namespace Go.Proofs.YtjefmicahadijaaDoor
/- THE CELL 'sum', in the pinned program and in every row, IS THE sha256 OF THE DUMP (.gsa) THAT YtjefmicahadijaaDoorProg.lean LOADS. Nothing in Lean hashes anything: it is a label: what it is worth is what the hold of that sum in a sandbox is worth. -/
noncomputable def Tryd.pinned : Pinned := { name := "ytjefmicahadijaadoor", sum := "c89f10471f1733cbf29f4bb9e345965155c812e51c659e534fc466d41572103c", checked := Tryd.checked }
namespace Rows
def none {H : Type} : Left H := { results := [], args := [] }

/- WHAT THE LISTED PACKAGE-LEVEL VARIABLES READ AS WHEN THE CALL BEGINS. Each datum BY PROGRAM (the guide's laid-datum.mjs) off the statement by which the dump's own 'gosem.cut.vars' lays the variable. In a bare row this is a premise. The card (YtjefmicahadijaaDoorCards.lean) ties it to the program's text. -/
def laid_unicode_utf8_acceptRanges {H : Type} : DataW H := .agg [.agg [.lit (.int .u8 128), .lit (.int .u8 191)], .agg [.lit (.int .u8 160), .lit (.int .u8 191)], .agg [.lit (.int .u8 128), .lit (.int .u8 159)], .agg [.lit (.int .u8 144), .lit (.int .u8 191)], .agg [.lit (.int .u8 128), .lit (.int .u8 143)], .agg [.lit (.int .u8 0), .lit (.int .u8 0)], .agg [.lit (.int .u8 0), .lit (.int .u8 0)], .agg [.lit (.int .u8 0), .lit (.int .u8 0)], .agg [.lit (.int .u8 0), .lit (.int .u8 0)], .agg [.lit (.int .u8 0), .lit (.int .u8 0)], .agg [.lit (.int .u8 0), .lit (.int .u8 0)], .agg [.lit (.int .u8 0), .lit (.int .u8 0)], .agg [.lit (.int .u8 0), .lit (.int .u8 0)], .agg [.lit (.int .u8 0), .lit (.int .u8 0)], .agg [.lit (.int .u8 0), .lit (.int .u8 0)], .agg [.lit (.int .u8 0), .lit (.int .u8 0)]]
/-- One of Go's own tables, pinned by name: the form's constant. -/
def laid_unicode_utf8_first : DataW Unit := Go.Pinned.utf8First

/-- 'laws.FnExactValidAffix': WHATEVER THE INPUT: true; the input reads as it did. -/
def fnExactValidAffixSpec : ChangeSpec := { name := "fnExactValidAffix", fn := fun _ => fun
  | [d] => { results := [.lit (.bool true)], args := [d] }
  | _ => none }
def fnExactValidAffixRow : OpenClaim := { program := "ytjefmicahadijaadoor", sum := "c89f10471f1733cbf29f4bb9e345965155c812e51c659e534fc466d41572103c", func := "loop.example/g00911/laws.FnExactValidAffix", spec := "fnExactValidAffix", inPlace := ["internal/bytealg.CountString", "internal/bytealg.IndexByteString", "internal/bytealg.IndexString", "internal/abi.NoEscape", "internal/bytealg.MakeNoZero"], named := ["internal/bytealg.MaxLen", "unicode/utf8.first", "unicode/utf8.acceptRanges"], apart := false, laid := [("unicode/utf8.acceptRanges", laid_unicode_utf8_acceptRanges), ("unicode/utf8.first", laid_unicode_utf8_first)] }
def FnExactValidAffixSaid : Prop := fnExactValidAffixRow.holds Tryd.pinned (OpenSpec.ofChange fnExactValidAffixSpec)

/-- ITS FALSE NEIGHBOUR: 'it returns false'. Refute it at one input. -/
def fnExactValidAffixWrong : ChangeSpec := { name := "fnExactValidAffix", fn := fun _ => fun
  | [d] => { results := [.lit (.bool false)], args := [d] }
  | _ => none }
def FnExactValidAffixWrongFalsely : Prop := fnExactValidAffixRow.holds Tryd.pinned (OpenSpec.ofChange fnExactValidAffixWrong)

/-- 'laws.FnExactMatchesAffix': WHATEVER THE INPUT: true; the input reads as it did. -/
def fnExactMatchesAffixSpec : ChangeSpec := { name := "fnExactMatchesAffix", fn := fun _ => fun
  | [d1, d2] => { results := [.lit (.bool true)], args := [d1, d2] }
  | _ => none }
def fnExactMatchesAffixRow : OpenClaim := { program := "ytjefmicahadijaadoor", sum := "c89f10471f1733cbf29f4bb9e345965155c812e51c659e534fc466d41572103c", func := "loop.example/g00911/laws.FnExactMatchesAffix", spec := "fnExactMatchesAffix", inPlace := ["internal/bytealg.CountString", "internal/bytealg.IndexByteString", "internal/bytealg.IndexString", "internal/abi.NoEscape", "internal/bytealg.MakeNoZero"], named := ["internal/bytealg.MaxLen", "unicode/utf8.first", "unicode/utf8.acceptRanges"], apart := false, laid := [("unicode/utf8.acceptRanges", laid_unicode_utf8_acceptRanges), ("unicode/utf8.first", laid_unicode_utf8_first)] }
def FnExactMatchesAffixSaid : Prop := fnExactMatchesAffixRow.holds Tryd.pinned (OpenSpec.ofChange fnExactMatchesAffixSpec)

/-- ITS FALSE NEIGHBOUR: 'it returns false'. Refute it at one input. -/
def fnExactMatchesAffixWrong : ChangeSpec := { name := "fnExactMatchesAffix", fn := fun _ => fun
  | [d1, d2] => { results := [.lit (.bool false)], args := [d1, d2] }
  | _ => none }
def FnExactMatchesAffixWrongFalsely : Prop := fnExactMatchesAffixRow.holds Tryd.pinned (OpenSpec.ofChange fnExactMatchesAffixWrong)

/-- 'laws.FnExactApplyAffix': WHATEVER THE INPUT: true; the input reads as it did. -/
def fnExactApplyAffixSpec : ChangeSpec := { name := "fnExactApplyAffix", fn := fun _ => fun
  | [d1, d2] => { results := [.lit (.bool true)], args := [d1, d2] }
  | _ => none }
def fnExactApplyAffixRow : OpenClaim := { program := "ytjefmicahadijaadoor", sum := "c89f10471f1733cbf29f4bb9e345965155c812e51c659e534fc466d41572103c", func := "loop.example/g00911/laws.FnExactApplyAffix", spec := "fnExactApplyAffix", inPlace := ["internal/bytealg.CountString", "internal/bytealg.IndexByteString", "internal/bytealg.IndexString", "internal/abi.NoEscape", "internal/bytealg.MakeNoZero"], named := ["internal/bytealg.MaxLen", "unicode/utf8.first", "unicode/utf8.acceptRanges"], apart := false, laid := [("unicode/utf8.acceptRanges", laid_unicode_utf8_acceptRanges), ("unicode/utf8.first", laid_unicode_utf8_first)] }
def FnExactApplyAffixSaid : Prop := fnExactApplyAffixRow.holds Tryd.pinned (OpenSpec.ofChange fnExactApplyAffixSpec)

/-- ITS FALSE NEIGHBOUR: 'it returns false'. Refute it at one input. -/
def fnExactApplyAffixWrong : ChangeSpec := { name := "fnExactApplyAffix", fn := fun _ => fun
  | [d1, d2] => { results := [.lit (.bool false)], args := [d1, d2] }
  | _ => none }
def FnExactApplyAffixWrongFalsely : Prop := fnExactApplyAffixRow.holds Tryd.pinned (OpenSpec.ofChange fnExactApplyAffixWrong)

/-- 'laws.FnExactUndoAffix': WHATEVER THE INPUT: true; the input reads as it did. -/
def fnExactUndoAffixSpec : ChangeSpec := { name := "fnExactUndoAffix", fn := fun _ => fun
  | [d1, d2] => { results := [.lit (.bool true)], args := [d1, d2] }
  | _ => none }
def fnExactUndoAffixRow : OpenClaim := { program := "ytjefmicahadijaadoor", sum := "c89f10471f1733cbf29f4bb9e345965155c812e51c659e534fc466d41572103c", func := "loop.example/g00911/laws.FnExactUndoAffix", spec := "fnExactUndoAffix", inPlace := ["internal/bytealg.CountString", "internal/bytealg.IndexByteString", "internal/bytealg.IndexString", "internal/abi.NoEscape", "internal/bytealg.MakeNoZero"], named := ["internal/bytealg.MaxLen", "unicode/utf8.first", "unicode/utf8.acceptRanges"], apart := false, laid := [("unicode/utf8.acceptRanges", laid_unicode_utf8_acceptRanges), ("unicode/utf8.first", laid_unicode_utf8_first)] }
def FnExactUndoAffixSaid : Prop := fnExactUndoAffixRow.holds Tryd.pinned (OpenSpec.ofChange fnExactUndoAffixSpec)

/-- ITS FALSE NEIGHBOUR: 'it returns false'. Refute it at one input. -/
def fnExactUndoAffixWrong : ChangeSpec := { name := "fnExactUndoAffix", fn := fun _ => fun
  | [d1, d2] => { results := [.lit (.bool false)], args := [d1, d2] }
  | _ => none }
def FnExactUndoAffixWrongFalsely : Prop := fnExactUndoAffixRow.holds Tryd.pinned (OpenSpec.ofChange fnExactUndoAffixWrong)

/-- 'laws.FnAffixes': WHATEVER THE INPUT: true; the input reads as it did. -/
def fnAffixesSpec : ChangeSpec := { name := "fnAffixes", fn := fun _ => fun
  | [d] => { results := [.lit (.bool true)], args := [d] }
  | _ => none }
def fnAffixesRow : OpenClaim := { program := "ytjefmicahadijaadoor", sum := "c89f10471f1733cbf29f4bb9e345965155c812e51c659e534fc466d41572103c", func := "loop.example/g00911/laws.FnAffixes", spec := "fnAffixes", inPlace := ["internal/bytealg.CountString", "internal/bytealg.IndexByteString", "internal/bytealg.IndexString", "internal/abi.NoEscape", "internal/bytealg.MakeNoZero"], named := ["internal/bytealg.MaxLen", "unicode/utf8.first", "unicode/utf8.acceptRanges"], apart := false, laid := [("unicode/utf8.acceptRanges", laid_unicode_utf8_acceptRanges), ("unicode/utf8.first", laid_unicode_utf8_first)] }
def FnAffixesSaid : Prop := fnAffixesRow.holds Tryd.pinned (OpenSpec.ofChange fnAffixesSpec)

/-- ITS FALSE NEIGHBOUR: 'it returns false'. Refute it at one input. -/
def fnAffixesWrong : ChangeSpec := { name := "fnAffixes", fn := fun _ => fun
  | [d] => { results := [.lit (.bool false)], args := [d] }
  | _ => none }
def FnAffixesWrongFalsely : Prop := fnAffixesRow.holds Tryd.pinned (OpenSpec.ofChange fnAffixesWrong)

/-- 'laws.FnExactValidGrammar': WHATEVER THE INPUT: true; the input reads as it did. -/
def fnExactValidGrammarSpec : ChangeSpec := { name := "fnExactValidGrammar", fn := fun _ => fun
  | [d] => { results := [.lit (.bool true)], args := [d] }
  | _ => none }
def fnExactValidGrammarRow : OpenClaim := { program := "ytjefmicahadijaadoor", sum := "c89f10471f1733cbf29f4bb9e345965155c812e51c659e534fc466d41572103c", func := "loop.example/g00911/laws.FnExactValidGrammar", spec := "fnExactValidGrammar", inPlace := ["internal/bytealg.CountString", "internal/bytealg.IndexByteString", "internal/bytealg.IndexString", "internal/abi.NoEscape", "internal/bytealg.MakeNoZero"], named := ["internal/bytealg.MaxLen", "unicode/utf8.first", "unicode/utf8.acceptRanges"], apart := false, laid := [("unicode/utf8.acceptRanges", laid_unicode_utf8_acceptRanges), ("unicode/utf8.first", laid_unicode_utf8_first)] }
def FnExactValidGrammarSaid : Prop := fnExactValidGrammarRow.holds Tryd.pinned (OpenSpec.ofChange fnExactValidGrammarSpec)

/-- ITS FALSE NEIGHBOUR: 'it returns false'. Refute it at one input. -/
def fnExactValidGrammarWrong : ChangeSpec := { name := "fnExactValidGrammar", fn := fun _ => fun
  | [d] => { results := [.lit (.bool false)], args := [d] }
  | _ => none }
def FnExactValidGrammarWrongFalsely : Prop := fnExactValidGrammarRow.holds Tryd.pinned (OpenSpec.ofChange fnExactValidGrammarWrong)

/-- 'laws.FnExactWordOf': WHATEVER THE INPUT: true; the input reads as it did. -/
def fnExactWordOfSpec : ChangeSpec := { name := "fnExactWordOf", fn := fun _ => fun
  | [d1, d2] => { results := [.lit (.bool true)], args := [d1, d2] }
  | _ => none }
def fnExactWordOfRow : OpenClaim := { program := "ytjefmicahadijaadoor", sum := "c89f10471f1733cbf29f4bb9e345965155c812e51c659e534fc466d41572103c", func := "loop.example/g00911/laws.FnExactWordOf", spec := "fnExactWordOf", inPlace := ["internal/bytealg.CountString", "internal/bytealg.IndexByteString", "internal/bytealg.IndexString", "internal/abi.NoEscape", "internal/bytealg.MakeNoZero"], unfollowed := true, recurses := true, named := ["internal/bytealg.MaxLen", "unicode/utf8.first", "unicode/utf8.acceptRanges"], apart := false, laid := [("unicode/utf8.acceptRanges", laid_unicode_utf8_acceptRanges), ("unicode/utf8.first", laid_unicode_utf8_first)] }
def FnExactWordOfSaid : Prop := fnExactWordOfRow.holds Tryd.pinned (OpenSpec.ofChange fnExactWordOfSpec)

/-- ITS FALSE NEIGHBOUR: 'it returns false'. Refute it at one input. -/
def fnExactWordOfWrong : ChangeSpec := { name := "fnExactWordOf", fn := fun _ => fun
  | [d1, d2] => { results := [.lit (.bool false)], args := [d1, d2] }
  | _ => none }
def FnExactWordOfWrongFalsely : Prop := fnExactWordOfRow.holds Tryd.pinned (OpenSpec.ofChange fnExactWordOfWrong)

/-- 'laws.FnExactDerivationsOf': WHATEVER THE INPUT: true; the input reads as it did. -/
def fnExactDerivationsOfSpec : ChangeSpec := { name := "fnExactDerivationsOf", fn := fun _ => fun
  | [d1, d2] => { results := [.lit (.bool true)], args := [d1, d2] }
  | _ => none }
def fnExactDerivationsOfRow : OpenClaim := { program := "ytjefmicahadijaadoor", sum := "c89f10471f1733cbf29f4bb9e345965155c812e51c659e534fc466d41572103c", func := "loop.example/g00911/laws.FnExactDerivationsOf", spec := "fnExactDerivationsOf", inPlace := ["internal/bytealg.CountString", "internal/bytealg.IndexByteString", "internal/bytealg.IndexString", "internal/abi.NoEscape", "internal/bytealg.MakeNoZero"], unfollowed := true, recurses := true, named := ["internal/bytealg.MaxLen", "unicode/utf8.first", "unicode/utf8.acceptRanges"], apart := false, laid := [("unicode/utf8.acceptRanges", laid_unicode_utf8_acceptRanges), ("unicode/utf8.first", laid_unicode_utf8_first)] }
def FnExactDerivationsOfSaid : Prop := fnExactDerivationsOfRow.holds Tryd.pinned (OpenSpec.ofChange fnExactDerivationsOfSpec)

/-- ITS FALSE NEIGHBOUR: 'it returns false'. Refute it at one input. -/
def fnExactDerivationsOfWrong : ChangeSpec := { name := "fnExactDerivationsOf", fn := fun _ => fun
  | [d1, d2] => { results := [.lit (.bool false)], args := [d1, d2] }
  | _ => none }
def FnExactDerivationsOfWrongFalsely : Prop := fnExactDerivationsOfRow.holds Tryd.pinned (OpenSpec.ofChange fnExactDerivationsOfWrong)

/- THE SECOND FORM. 'bulk': how many values and letters a reading holds, each counted each time it is reached (what is shared counts as often as it is met; a slice's spare places count too). A statement '..UptoSaid' is the law's where the arguments, and the package variables that the reading takes, are together of bulk at most 1048576: NARROWER than '..Said'. Prove '..Said' where nothing that the law and all that it calls make is longer than what came in: it says more and counts as full. Else prove '..UptoSaid'. A law counts once. -/
mutual
def uptoBulk {H : Type} : DataW H → Nat
  | .lit (.string bytes) => bytes.length + 1
  | .lit _ => 1
  | .nil => 1
  | .ptr d => uptoBulk d + 1
  | .slice elems spare => uptoBulkAll elems + uptoBulkAll spare + 1
  | .agg parts => uptoBulkAll parts + 1
  | .iface _ d => uptoBulk d + 1
  | .map entries => uptoBulkEntries entries + 1
  | .held _ => 1
def uptoBulkAll {H : Type} : List (DataW H) → Nat
  | [] => 0
  | d :: r => uptoBulk d + uptoBulkAll r
def uptoBulkEntries {H : Type} : List (Lit × DataW H) → Nat
  | [] => 0
  | x :: r => uptoBulkEntry x + uptoBulkEntries r
def uptoBulkEntry {H : Type} : Lit × DataW H → Nat
  | (.string bytes, d) => bytes.length + uptoBulk d + 1
  | (_, d) => uptoBulk d + 1
 end
def uptoSmall : (H : Type) → List (DataW H) → Bool := fun _ ds => decide (uptoBulkAll ds ≤ 1048576)
def OpenSpec.upto (s : _root_.Go.ChangeSpec) : _root_.Go.OpenSpec := { _root_.Go.OpenSpec.ofChange s with cond := some uptoSmall }

/-- 'laws.FnExactValidAffix', WHERE WHAT IT READS IS OF BULK AT MOST 1048576: true; the input reads as it did. -/
def fnExactValidAffixUptoRow : OpenClaim := { program := "ytjefmicahadijaadoor", sum := "c89f10471f1733cbf29f4bb9e345965155c812e51c659e534fc466d41572103c", func := "loop.example/g00911/laws.FnExactValidAffix", spec := "fnExactValidAffix", inPlace := ["internal/bytealg.CountString", "internal/bytealg.IndexByteString", "internal/bytealg.IndexString", "internal/abi.NoEscape", "internal/bytealg.MakeNoZero"], named := ["internal/bytealg.MaxLen", "unicode/utf8.first", "unicode/utf8.acceptRanges"], apart := false, laid := [("unicode/utf8.acceptRanges", laid_unicode_utf8_acceptRanges), ("unicode/utf8.first", laid_unicode_utf8_first)], narrowed := true }
def FnExactValidAffixUptoSaid : Prop := fnExactValidAffixUptoRow.holds Tryd.pinned (OpenSpec.upto fnExactValidAffixSpec)

/-- 'laws.FnExactMatchesAffix', WHERE WHAT IT READS IS OF BULK AT MOST 1048576: true; the input reads as it did. -/
def fnExactMatchesAffixUptoRow : OpenClaim := { program := "ytjefmicahadijaadoor", sum := "c89f10471f1733cbf29f4bb9e345965155c812e51c659e534fc466d41572103c", func := "loop.example/g00911/laws.FnExactMatchesAffix", spec := "fnExactMatchesAffix", inPlace := ["internal/bytealg.CountString", "internal/bytealg.IndexByteString", "internal/bytealg.IndexString", "internal/abi.NoEscape", "internal/bytealg.MakeNoZero"], named := ["internal/bytealg.MaxLen", "unicode/utf8.first", "unicode/utf8.acceptRanges"], apart := false, laid := [("unicode/utf8.acceptRanges", laid_unicode_utf8_acceptRanges), ("unicode/utf8.first", laid_unicode_utf8_first)], narrowed := true }
def FnExactMatchesAffixUptoSaid : Prop := fnExactMatchesAffixUptoRow.holds Tryd.pinned (OpenSpec.upto fnExactMatchesAffixSpec)

/-- 'laws.FnExactApplyAffix', WHERE WHAT IT READS IS OF BULK AT MOST 1048576: true; the input reads as it did. -/
def fnExactApplyAffixUptoRow : OpenClaim := { program := "ytjefmicahadijaadoor", sum := "c89f10471f1733cbf29f4bb9e345965155c812e51c659e534fc466d41572103c", func := "loop.example/g00911/laws.FnExactApplyAffix", spec := "fnExactApplyAffix", inPlace := ["internal/bytealg.CountString", "internal/bytealg.IndexByteString", "internal/bytealg.IndexString", "internal/abi.NoEscape", "internal/bytealg.MakeNoZero"], named := ["internal/bytealg.MaxLen", "unicode/utf8.first", "unicode/utf8.acceptRanges"], apart := false, laid := [("unicode/utf8.acceptRanges", laid_unicode_utf8_acceptRanges), ("unicode/utf8.first", laid_unicode_utf8_first)], narrowed := true }
def FnExactApplyAffixUptoSaid : Prop := fnExactApplyAffixUptoRow.holds Tryd.pinned (OpenSpec.upto fnExactApplyAffixSpec)

/-- 'laws.FnExactUndoAffix', WHERE WHAT IT READS IS OF BULK AT MOST 1048576: true; the input reads as it did. -/
def fnExactUndoAffixUptoRow : OpenClaim := { program := "ytjefmicahadijaadoor", sum := "c89f10471f1733cbf29f4bb9e345965155c812e51c659e534fc466d41572103c", func := "loop.example/g00911/laws.FnExactUndoAffix", spec := "fnExactUndoAffix", inPlace := ["internal/bytealg.CountString", "internal/bytealg.IndexByteString", "internal/bytealg.IndexString", "internal/abi.NoEscape", "internal/bytealg.MakeNoZero"], named := ["internal/bytealg.MaxLen", "unicode/utf8.first", "unicode/utf8.acceptRanges"], apart := false, laid := [("unicode/utf8.acceptRanges", laid_unicode_utf8_acceptRanges), ("unicode/utf8.first", laid_unicode_utf8_first)], narrowed := true }
def FnExactUndoAffixUptoSaid : Prop := fnExactUndoAffixUptoRow.holds Tryd.pinned (OpenSpec.upto fnExactUndoAffixSpec)

/-- 'laws.FnAffixes', WHERE WHAT IT READS IS OF BULK AT MOST 1048576: true; the input reads as it did. -/
def fnAffixesUptoRow : OpenClaim := { program := "ytjefmicahadijaadoor", sum := "c89f10471f1733cbf29f4bb9e345965155c812e51c659e534fc466d41572103c", func := "loop.example/g00911/laws.FnAffixes", spec := "fnAffixes", inPlace := ["internal/bytealg.CountString", "internal/bytealg.IndexByteString", "internal/bytealg.IndexString", "internal/abi.NoEscape", "internal/bytealg.MakeNoZero"], named := ["internal/bytealg.MaxLen", "unicode/utf8.first", "unicode/utf8.acceptRanges"], apart := false, laid := [("unicode/utf8.acceptRanges", laid_unicode_utf8_acceptRanges), ("unicode/utf8.first", laid_unicode_utf8_first)], narrowed := true }
def FnAffixesUptoSaid : Prop := fnAffixesUptoRow.holds Tryd.pinned (OpenSpec.upto fnAffixesSpec)

/-- 'laws.FnExactValidGrammar', WHERE WHAT IT READS IS OF BULK AT MOST 1048576: true; the input reads as it did. -/
def fnExactValidGrammarUptoRow : OpenClaim := { program := "ytjefmicahadijaadoor", sum := "c89f10471f1733cbf29f4bb9e345965155c812e51c659e534fc466d41572103c", func := "loop.example/g00911/laws.FnExactValidGrammar", spec := "fnExactValidGrammar", inPlace := ["internal/bytealg.CountString", "internal/bytealg.IndexByteString", "internal/bytealg.IndexString", "internal/abi.NoEscape", "internal/bytealg.MakeNoZero"], named := ["internal/bytealg.MaxLen", "unicode/utf8.first", "unicode/utf8.acceptRanges"], apart := false, laid := [("unicode/utf8.acceptRanges", laid_unicode_utf8_acceptRanges), ("unicode/utf8.first", laid_unicode_utf8_first)], narrowed := true }
def FnExactValidGrammarUptoSaid : Prop := fnExactValidGrammarUptoRow.holds Tryd.pinned (OpenSpec.upto fnExactValidGrammarSpec)

/-- 'laws.FnExactWordOf', WHERE WHAT IT READS IS OF BULK AT MOST 1048576: true; the input reads as it did. -/
def fnExactWordOfUptoRow : OpenClaim := { program := "ytjefmicahadijaadoor", sum := "c89f10471f1733cbf29f4bb9e345965155c812e51c659e534fc466d41572103c", func := "loop.example/g00911/laws.FnExactWordOf", spec := "fnExactWordOf", inPlace := ["internal/bytealg.CountString", "internal/bytealg.IndexByteString", "internal/bytealg.IndexString", "internal/abi.NoEscape", "internal/bytealg.MakeNoZero"], unfollowed := true, recurses := true, named := ["internal/bytealg.MaxLen", "unicode/utf8.first", "unicode/utf8.acceptRanges"], apart := false, laid := [("unicode/utf8.acceptRanges", laid_unicode_utf8_acceptRanges), ("unicode/utf8.first", laid_unicode_utf8_first)], narrowed := true }
def FnExactWordOfUptoSaid : Prop := fnExactWordOfUptoRow.holds Tryd.pinned (OpenSpec.upto fnExactWordOfSpec)

/-- 'laws.FnExactDerivationsOf', WHERE WHAT IT READS IS OF BULK AT MOST 1048576: true; the input reads as it did. -/
def fnExactDerivationsOfUptoRow : OpenClaim := { program := "ytjefmicahadijaadoor", sum := "c89f10471f1733cbf29f4bb9e345965155c812e51c659e534fc466d41572103c", func := "loop.example/g00911/laws.FnExactDerivationsOf", spec := "fnExactDerivationsOf", inPlace := ["internal/bytealg.CountString", "internal/bytealg.IndexByteString", "internal/bytealg.IndexString", "internal/abi.NoEscape", "internal/bytealg.MakeNoZero"], unfollowed := true, recurses := true, named := ["internal/bytealg.MaxLen", "unicode/utf8.first", "unicode/utf8.acceptRanges"], apart := false, laid := [("unicode/utf8.acceptRanges", laid_unicode_utf8_acceptRanges), ("unicode/utf8.first", laid_unicode_utf8_first)], narrowed := true }
def FnExactDerivationsOfUptoSaid : Prop := fnExactDerivationsOfUptoRow.holds Tryd.pinned (OpenSpec.upto fnExactDerivationsOfSpec)

end Rows
end Go.Proofs.YtjefmicahadijaaDoor
