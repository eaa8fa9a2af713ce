/-
  No cell of these rows narrows 'for every input' (looked for: loops, veiled, ifaces, maps, wideKeys, modest, calm, conditions, laid).
  DERIVED. THE GIVEN ROWS OF THIS SEAT. 9 by the template 'for every input the law returns true; each argument reads behind the call as it read before'; 0 by the template 'total and deterministic' (their statements: YtlompohfibcjfaaTotals.lean).
  GIVEN WITH THE SEED: the statements are not yours to turn. If you find one false, say at which input.
  Laid BY PROGRAM, IN A SANDBOX (cutbox-rows.mjs): the forced cells as the released guide's own fill.sh prints them over the translation 16422d58ca092bf4… (all of the seat's roots in one cut). By AI agents, Wed Nov 11 2026. No macro, syntax, notation, axiom, sorry.
-/
import Derived.Test.YtlompohfibcjfaaChecked
import GoSem.Claim
import GoSem.ClaimJoined
import GoSem.ClaimMapViews
import Derived.JoinedTies
import Derived.KernelRfl
namespace Go.Proofs.Ytlompohfibcjfaa
/- THE CELL 'sum', in the pinned program and in every row, IS THE sha256 OF THE DUMP (.gsa) THAT YtlompohfibcjfaaProg.lean LOADS. Nothing in Lean hashes anything: it is a label: what it is worth is what the hold of that sum in a sandbox is worth. -/
noncomputable def Try.pinned : Pinned := { name := "ytlompohfibcjfaa", sum := "16422d58ca092bf42b9bd0b7b82249beb63e6cc9ff640ab85140d3b78bc15718", checked := Try.checked }
namespace Rows
def none {H : Type} : Left H := { results := [], args := [] }

/-- 'laws.FnExactSameLexicon': WHATEVER THE INPUT: true; the input reads as it did. -/
def fnExactSameLexiconSpec : ChangeSpec := { name := "fnExactSameLexicon", fn := fun _ => fun
  | [d1, d2] => { results := [.lit (.bool true)], args := [d1, d2] }
  | _ => none }
def fnExactSameLexiconRow : OpenClaim := { program := "ytlompohfibcjfaa", sum := "16422d58ca092bf42b9bd0b7b82249beb63e6cc9ff640ab85140d3b78bc15718", func := "loop.example/g00911/laws.FnExactSameLexicon", spec := "fnExactSameLexicon", apart := false }
def FnExactSameLexiconSaid : Prop := fnExactSameLexiconRow.holds Try.pinned (OpenSpec.ofChange fnExactSameLexiconSpec)

/-- ITS FALSE NEIGHBOUR: 'it returns false'. Refute it at one input. -/
def fnExactSameLexiconWrong : ChangeSpec := { name := "fnExactSameLexicon", fn := fun _ => fun
  | [d1, d2] => { results := [.lit (.bool false)], args := [d1, d2] }
  | _ => none }
def FnExactSameLexiconWrongFalsely : Prop := fnExactSameLexiconRow.holds Try.pinned (OpenSpec.ofChange fnExactSameLexiconWrong)

/-- 'laws.FnExactValidLexicon': WHATEVER THE INPUT: true; the input reads as it did. -/
def fnExactValidLexiconSpec : ChangeSpec := { name := "fnExactValidLexicon", fn := fun _ => fun
  | [d] => { results := [.lit (.bool true)], args := [d] }
  | _ => none }
def fnExactValidLexiconRow : OpenClaim := { program := "ytlompohfibcjfaa", sum := "16422d58ca092bf42b9bd0b7b82249beb63e6cc9ff640ab85140d3b78bc15718", func := "loop.example/g00911/laws.FnExactValidLexicon", spec := "fnExactValidLexicon", apart := false }
def FnExactValidLexiconSaid : Prop := fnExactValidLexiconRow.holds Try.pinned (OpenSpec.ofChange fnExactValidLexiconSpec)

/-- ITS FALSE NEIGHBOUR: 'it returns false'. Refute it at one input. -/
def fnExactValidLexiconWrong : ChangeSpec := { name := "fnExactValidLexicon", fn := fun _ => fun
  | [d] => { results := [.lit (.bool false)], args := [d] }
  | _ => none }
def FnExactValidLexiconWrongFalsely : Prop := fnExactValidLexiconRow.holds Try.pinned (OpenSpec.ofChange fnExactValidLexiconWrong)

/-- 'laws.FnExactLexiconText': WHATEVER THE INPUT: true; the input reads as it did. -/
def fnExactLexiconTextSpec : ChangeSpec := { name := "fnExactLexiconText", fn := fun _ => fun
  | [d] => { results := [.lit (.bool true)], args := [d] }
  | _ => none }
def fnExactLexiconTextRow : OpenClaim := { program := "ytlompohfibcjfaa", sum := "16422d58ca092bf42b9bd0b7b82249beb63e6cc9ff640ab85140d3b78bc15718", func := "loop.example/g00911/laws.FnExactLexiconText", spec := "fnExactLexiconText", inPlace := ["internal/abi.NoEscape"], apart := false }
def FnExactLexiconTextSaid : Prop := fnExactLexiconTextRow.holds Try.pinned (OpenSpec.ofChange fnExactLexiconTextSpec)

/-- ITS FALSE NEIGHBOUR: 'it returns false'. Refute it at one input. -/
def fnExactLexiconTextWrong : ChangeSpec := { name := "fnExactLexiconText", fn := fun _ => fun
  | [d] => { results := [.lit (.bool false)], args := [d] }
  | _ => none }
def FnExactLexiconTextWrongFalsely : Prop := fnExactLexiconTextRow.holds Try.pinned (OpenSpec.ofChange fnExactLexiconTextWrong)

/-- 'laws.FnExactWordsOfLength': WHATEVER THE INPUT: true; the input reads as it did. -/
def fnExactWordsOfLengthSpec : ChangeSpec := { name := "fnExactWordsOfLength", fn := fun _ => fun
  | [d1, d2] => { results := [.lit (.bool true)], args := [d1, d2] }
  | _ => none }
def fnExactWordsOfLengthRow : OpenClaim := { program := "ytlompohfibcjfaa", sum := "16422d58ca092bf42b9bd0b7b82249beb63e6cc9ff640ab85140d3b78bc15718", func := "loop.example/g00911/laws.FnExactWordsOfLength", spec := "fnExactWordsOfLength", unfollowed := true, recurses := true, apart := false }
def FnExactWordsOfLengthSaid : Prop := fnExactWordsOfLengthRow.holds Try.pinned (OpenSpec.ofChange fnExactWordsOfLengthSpec)

/-- ITS FALSE NEIGHBOUR: 'it returns false'. Refute it at one input. -/
def fnExactWordsOfLengthWrong : ChangeSpec := { name := "fnExactWordsOfLength", fn := fun _ => fun
  | [d1, d2] => { results := [.lit (.bool false)], args := [d1, d2] }
  | _ => none }
def FnExactWordsOfLengthWrongFalsely : Prop := fnExactWordsOfLengthRow.holds Try.pinned (OpenSpec.ofChange fnExactWordsOfLengthWrong)

/-- 'laws.FnExactPrefixRange': WHATEVER THE INPUT: true; the input reads as it did. -/
def fnExactPrefixRangeSpec : ChangeSpec := { name := "fnExactPrefixRange", fn := fun _ => fun
  | [d1, d2] => { results := [.lit (.bool true)], args := [d1, d2] }
  | _ => none }
def fnExactPrefixRangeRow : OpenClaim := { program := "ytlompohfibcjfaa", sum := "16422d58ca092bf42b9bd0b7b82249beb63e6cc9ff640ab85140d3b78bc15718", func := "loop.example/g00911/laws.FnExactPrefixRange", spec := "fnExactPrefixRange", apart := false }
def FnExactPrefixRangeSaid : Prop := fnExactPrefixRangeRow.holds Try.pinned (OpenSpec.ofChange fnExactPrefixRangeSpec)

/-- ITS FALSE NEIGHBOUR: 'it returns false'. Refute it at one input. -/
def fnExactPrefixRangeWrong : ChangeSpec := { name := "fnExactPrefixRange", fn := fun _ => fun
  | [d1, d2] => { results := [.lit (.bool false)], args := [d1, d2] }
  | _ => none }
def FnExactPrefixRangeWrongFalsely : Prop := fnExactPrefixRangeRow.holds Try.pinned (OpenSpec.ofChange fnExactPrefixRangeWrong)

/-- 'laws.FnExactRemoveWord': WHATEVER THE INPUT: true; the input reads as it did. -/
def fnExactRemoveWordSpec : ChangeSpec := { name := "fnExactRemoveWord", fn := fun _ => fun
  | [d1, d2] => { results := [.lit (.bool true)], args := [d1, d2] }
  | _ => none }
def fnExactRemoveWordRow : OpenClaim := { program := "ytlompohfibcjfaa", sum := "16422d58ca092bf42b9bd0b7b82249beb63e6cc9ff640ab85140d3b78bc15718", func := "loop.example/g00911/laws.FnExactRemoveWord", spec := "fnExactRemoveWord", apart := false }
def FnExactRemoveWordSaid : Prop := fnExactRemoveWordRow.holds Try.pinned (OpenSpec.ofChange fnExactRemoveWordSpec)

/-- ITS FALSE NEIGHBOUR: 'it returns false'. Refute it at one input. -/
def fnExactRemoveWordWrong : ChangeSpec := { name := "fnExactRemoveWord", fn := fun _ => fun
  | [d1, d2] => { results := [.lit (.bool false)], args := [d1, d2] }
  | _ => none }
def FnExactRemoveWordWrongFalsely : Prop := fnExactRemoveWordRow.holds Try.pinned (OpenSpec.ofChange fnExactRemoveWordWrong)

/-- 'laws.FnExactAnagramsOf': WHATEVER THE INPUT: true; the input reads as it did. -/
def fnExactAnagramsOfSpec : ChangeSpec := { name := "fnExactAnagramsOf", fn := fun _ => fun
  | [d1, d2] => { results := [.lit (.bool true)], args := [d1, d2] }
  | _ => none }
def fnExactAnagramsOfRow : OpenClaim := { program := "ytlompohfibcjfaa", sum := "16422d58ca092bf42b9bd0b7b82249beb63e6cc9ff640ab85140d3b78bc15718", func := "loop.example/g00911/laws.FnExactAnagramsOf", spec := "fnExactAnagramsOf", inPlace := ["internal/abi.NoEscape"], apart := false }
def FnExactAnagramsOfSaid : Prop := fnExactAnagramsOfRow.holds Try.pinned (OpenSpec.ofChange fnExactAnagramsOfSpec)

/-- ITS FALSE NEIGHBOUR: 'it returns false'. Refute it at one input. -/
def fnExactAnagramsOfWrong : ChangeSpec := { name := "fnExactAnagramsOf", fn := fun _ => fun
  | [d1, d2] => { results := [.lit (.bool false)], args := [d1, d2] }
  | _ => none }
def FnExactAnagramsOfWrongFalsely : Prop := fnExactAnagramsOfRow.holds Try.pinned (OpenSpec.ofChange fnExactAnagramsOfWrong)

/-- 'laws.FnExactWordsFrom': WHATEVER THE INPUT: true; the input reads as it did. -/
def fnExactWordsFromSpec : ChangeSpec := { name := "fnExactWordsFrom", fn := fun _ => fun
  | [d1, d2] => { results := [.lit (.bool true)], args := [d1, d2] }
  | _ => none }
def fnExactWordsFromRow : OpenClaim := { program := "ytlompohfibcjfaa", sum := "16422d58ca092bf42b9bd0b7b82249beb63e6cc9ff640ab85140d3b78bc15718", func := "loop.example/g00911/laws.FnExactWordsFrom", spec := "fnExactWordsFrom", unfollowed := true, recurses := true, apart := false }
def FnExactWordsFromSaid : Prop := fnExactWordsFromRow.holds Try.pinned (OpenSpec.ofChange fnExactWordsFromSpec)

/-- ITS FALSE NEIGHBOUR: 'it returns false'. Refute it at one input. -/
def fnExactWordsFromWrong : ChangeSpec := { name := "fnExactWordsFrom", fn := fun _ => fun
  | [d1, d2] => { results := [.lit (.bool false)], args := [d1, d2] }
  | _ => none }
def FnExactWordsFromWrongFalsely : Prop := fnExactWordsFromRow.holds Try.pinned (OpenSpec.ofChange fnExactWordsFromWrong)

/-- 'laws.FnAnagrams': WHATEVER THE INPUT: true; the input reads as it did. -/
def fnAnagramsSpec : ChangeSpec := { name := "fnAnagrams", fn := fun _ => fun
  | [d1, d2] => { results := [.lit (.bool true)], args := [d1, d2] }
  | _ => none }
def fnAnagramsRow : OpenClaim := { program := "ytlompohfibcjfaa", sum := "16422d58ca092bf42b9bd0b7b82249beb63e6cc9ff640ab85140d3b78bc15718", func := "loop.example/g00911/laws.FnAnagrams", spec := "fnAnagrams", inPlace := ["internal/abi.NoEscape"], unfollowed := true, recurses := true, apart := false }
def FnAnagramsSaid : Prop := fnAnagramsRow.holds Try.pinned (OpenSpec.ofChange fnAnagramsSpec)

/-- ITS FALSE NEIGHBOUR: 'it returns false'. Refute it at one input. -/
def fnAnagramsWrong : ChangeSpec := { name := "fnAnagrams", fn := fun _ => fun
  | [d1, d2] => { results := [.lit (.bool false)], args := [d1, d2] }
  | _ => none }
def FnAnagramsWrongFalsely : Prop := fnAnagramsRow.holds Try.pinned (OpenSpec.ofChange fnAnagramsWrong)

/- THE SECOND FORM. 'bulk': how many values and letters a reading holds, each counted each time it is reached (what is shared counts as often as it is met; a slice's spare places count too). A statement '..UptoSaid' is the law's where the arguments, and the package variables that the reading takes, are together of bulk at most 1048576: NARROWER than '..Said'. Prove '..Said' where nothing that the law and all that it calls make is longer than what came in: it says more and counts as full. Else prove '..UptoSaid'. A law counts once. -/
mutual
def uptoBulk {H : Type} : DataW H → Nat
  | .lit (.string bytes) => bytes.length + 1
  | .lit _ => 1
  | .nil => 1
  | .ptr d => uptoBulk d + 1
  | .slice elems spare => uptoBulkAll elems + uptoBulkAll spare + 1
  | .agg parts => uptoBulkAll parts + 1
  | .iface _ d => uptoBulk d + 1
  | .map entries => uptoBulkEntries entries + 1
  | .held _ => 1
def uptoBulkAll {H : Type} : List (DataW H) → Nat
  | [] => 0
  | d :: r => uptoBulk d + uptoBulkAll r
def uptoBulkEntries {H : Type} : List (Lit × DataW H) → Nat
  | [] => 0
  | x :: r => uptoBulkEntry x + uptoBulkEntries r
def uptoBulkEntry {H : Type} : Lit × DataW H → Nat
  | (.string bytes, d) => bytes.length + uptoBulk d + 1
  | (_, d) => uptoBulk d + 1
 end
def uptoSmall : (H : Type) → List (DataW H) → Bool := fun _ ds => decide (uptoBulkAll ds ≤ 1048576)
def OpenSpec.upto (s : _root_.Go.ChangeSpec) : _root_.Go.OpenSpec := { _root_.Go.OpenSpec.ofChange s with cond := some uptoSmall }

/-- 'laws.FnExactSameLexicon', WHERE WHAT IT READS IS OF BULK AT MOST 1048576: true; the input reads as it did. -/
def fnExactSameLexiconUptoRow : OpenClaim := { program := "ytlompohfibcjfaa", sum := "16422d58ca092bf42b9bd0b7b82249beb63e6cc9ff640ab85140d3b78bc15718", func := "loop.example/g00911/laws.FnExactSameLexicon", spec := "fnExactSameLexicon", apart := false, narrowed := true }
def FnExactSameLexiconUptoSaid : Prop := fnExactSameLexiconUptoRow.holds Try.pinned (OpenSpec.upto fnExactSameLexiconSpec)

/-- 'laws.FnExactValidLexicon', WHERE WHAT IT READS IS OF BULK AT MOST 1048576: true; the input reads as it did. -/
def fnExactValidLexiconUptoRow : OpenClaim := { program := "ytlompohfibcjfaa", sum := "16422d58ca092bf42b9bd0b7b82249beb63e6cc9ff640ab85140d3b78bc15718", func := "loop.example/g00911/laws.FnExactValidLexicon", spec := "fnExactValidLexicon", apart := false, narrowed := true }
def FnExactValidLexiconUptoSaid : Prop := fnExactValidLexiconUptoRow.holds Try.pinned (OpenSpec.upto fnExactValidLexiconSpec)

/-- 'laws.FnExactLexiconText', WHERE WHAT IT READS IS OF BULK AT MOST 1048576: true; the input reads as it did. -/
def fnExactLexiconTextUptoRow : OpenClaim := { program := "ytlompohfibcjfaa", sum := "16422d58ca092bf42b9bd0b7b82249beb63e6cc9ff640ab85140d3b78bc15718", func := "loop.example/g00911/laws.FnExactLexiconText", spec := "fnExactLexiconText", inPlace := ["internal/abi.NoEscape"], apart := false, narrowed := true }
def FnExactLexiconTextUptoSaid : Prop := fnExactLexiconTextUptoRow.holds Try.pinned (OpenSpec.upto fnExactLexiconTextSpec)

/-- 'laws.FnExactWordsOfLength', WHERE WHAT IT READS IS OF BULK AT MOST 1048576: true; the input reads as it did. -/
def fnExactWordsOfLengthUptoRow : OpenClaim := { program := "ytlompohfibcjfaa", sum := "16422d58ca092bf42b9bd0b7b82249beb63e6cc9ff640ab85140d3b78bc15718", func := "loop.example/g00911/laws.FnExactWordsOfLength", spec := "fnExactWordsOfLength", unfollowed := true, recurses := true, apart := false, narrowed := true }
def FnExactWordsOfLengthUptoSaid : Prop := fnExactWordsOfLengthUptoRow.holds Try.pinned (OpenSpec.upto fnExactWordsOfLengthSpec)

/-- 'laws.FnExactPrefixRange', WHERE WHAT IT READS IS OF BULK AT MOST 1048576: true; the input reads as it did. -/
def fnExactPrefixRangeUptoRow : OpenClaim := { program := "ytlompohfibcjfaa", sum := "16422d58ca092bf42b9bd0b7b82249beb63e6cc9ff640ab85140d3b78bc15718", func := "loop.example/g00911/laws.FnExactPrefixRange", spec := "fnExactPrefixRange", apart := false, narrowed := true }
def FnExactPrefixRangeUptoSaid : Prop := fnExactPrefixRangeUptoRow.holds Try.pinned (OpenSpec.upto fnExactPrefixRangeSpec)

/-- 'laws.FnExactRemoveWord', WHERE WHAT IT READS IS OF BULK AT MOST 1048576: true; the input reads as it did. -/
def fnExactRemoveWordUptoRow : OpenClaim := { program := "ytlompohfibcjfaa", sum := "16422d58ca092bf42b9bd0b7b82249beb63e6cc9ff640ab85140d3b78bc15718", func := "loop.example/g00911/laws.FnExactRemoveWord", spec := "fnExactRemoveWord", apart := false, narrowed := true }
def FnExactRemoveWordUptoSaid : Prop := fnExactRemoveWordUptoRow.holds Try.pinned (OpenSpec.upto fnExactRemoveWordSpec)

/-- 'laws.FnExactAnagramsOf', WHERE WHAT IT READS IS OF BULK AT MOST 1048576: true; the input reads as it did. -/
def fnExactAnagramsOfUptoRow : OpenClaim := { program := "ytlompohfibcjfaa", sum := "16422d58ca092bf42b9bd0b7b82249beb63e6cc9ff640ab85140d3b78bc15718", func := "loop.example/g00911/laws.FnExactAnagramsOf", spec := "fnExactAnagramsOf", inPlace := ["internal/abi.NoEscape"], apart := false, narrowed := true }
def FnExactAnagramsOfUptoSaid : Prop := fnExactAnagramsOfUptoRow.holds Try.pinned (OpenSpec.upto fnExactAnagramsOfSpec)

/-- 'laws.FnExactWordsFrom', WHERE WHAT IT READS IS OF BULK AT MOST 1048576: true; the input reads as it did. -/
def fnExactWordsFromUptoRow : OpenClaim := { program := "ytlompohfibcjfaa", sum := "16422d58ca092bf42b9bd0b7b82249beb63e6cc9ff640ab85140d3b78bc15718", func := "loop.example/g00911/laws.FnExactWordsFrom", spec := "fnExactWordsFrom", unfollowed := true, recurses := true, apart := false, narrowed := true }
def FnExactWordsFromUptoSaid : Prop := fnExactWordsFromUptoRow.holds Try.pinned (OpenSpec.upto fnExactWordsFromSpec)

/-- 'laws.FnAnagrams', WHERE WHAT IT READS IS OF BULK AT MOST 1048576: true; the input reads as it did. -/
def fnAnagramsUptoRow : OpenClaim := { program := "ytlompohfibcjfaa", sum := "16422d58ca092bf42b9bd0b7b82249beb63e6cc9ff640ab85140d3b78bc15718", func := "loop.example/g00911/laws.FnAnagrams", spec := "fnAnagrams", inPlace := ["internal/abi.NoEscape"], unfollowed := true, recurses := true, apart := false, narrowed := true }
def FnAnagramsUptoSaid : Prop := fnAnagramsUptoRow.holds Try.pinned (OpenSpec.upto fnAnagramsSpec)

end Rows
end Go.Proofs.Ytlompohfibcjfaa
