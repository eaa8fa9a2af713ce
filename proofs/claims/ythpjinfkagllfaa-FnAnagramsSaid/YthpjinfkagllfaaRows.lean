/-
  No cell of these rows narrows 'for every input' (looked for: loops, veiled, ifaces, maps, wideKeys, modest, calm, conditions, laid).
  DERIVED. THE GIVEN ROWS OF THIS SEAT. 5 by the template 'for every input the law returns true; each argument reads behind the call as it read before'; 0 by the template 'total and deterministic' (their statements: YthpjinfkagllfaaTotals.lean).
  GIVEN WITH THE SEED: the statements are not yours to turn. If you find one false, say at which input.
  Laid BY PROGRAM, IN A SANDBOX (cutbox-rows.mjs): the forced cells as the released guide's own fill.sh prints them over the translation 54f5d57e9fcb7ba0… (all of the seat's roots in one cut). By AI agents, Wed Nov 11 2026. No macro, syntax, notation, axiom, sorry.
-/
import Derived.Test.YthpjinfkagllfaaChecked
import GoSem.Claim
import GoSem.ClaimJoined
import GoSem.ClaimMapViews
import Derived.JoinedTies
import Derived.KernelRfl
namespace Go.Proofs.Ythpjinfkagllfaa
/- THE CELL 'sum', in the pinned program and in every row, IS THE sha256 OF THE DUMP (.gsa) THAT YthpjinfkagllfaaProg.lean LOADS. Nothing in Lean hashes anything: it is a label: what it is worth is what the hold of that sum in a sandbox is worth. -/
noncomputable def Try.pinned : Pinned := { name := "ythpjinfkagllfaa", sum := "54f5d57e9fcb7ba09acb4ec55ea872b57952d6b2196bdbfdf8b3771fde71367f", checked := Try.checked }
namespace Rows
def none {H : Type} : Left H := { results := [], args := [] }

/-- 'laws.FnExactWaysToMake': WHATEVER THE INPUT: true; the input reads as it did. -/
def fnExactWaysToMakeSpec : ChangeSpec := { name := "fnExactWaysToMake", fn := fun _ => fun
  | [d1, d2] => { results := [.lit (.bool true)], args := [d1, d2] }
  | _ => none }
def fnExactWaysToMakeRow : OpenClaim := { program := "ythpjinfkagllfaa", sum := "54f5d57e9fcb7ba09acb4ec55ea872b57952d6b2196bdbfdf8b3771fde71367f", func := "loop.example/g00911/laws.FnExactWaysToMake", spec := "fnExactWaysToMake", unfollowed := true, recurses := true, apart := false }
def FnExactWaysToMakeSaid : Prop := fnExactWaysToMakeRow.holds Try.pinned (OpenSpec.ofChange fnExactWaysToMakeSpec)

/-- ITS FALSE NEIGHBOUR: 'it returns false'. Refute it at one input. -/
def fnExactWaysToMakeWrong : ChangeSpec := { name := "fnExactWaysToMake", fn := fun _ => fun
  | [d1, d2] => { results := [.lit (.bool false)], args := [d1, d2] }
  | _ => none }
def FnExactWaysToMakeWrongFalsely : Prop := fnExactWaysToMakeRow.holds Try.pinned (OpenSpec.ofChange fnExactWaysToMakeWrong)

/-- 'laws.FnExactSubRacks': WHATEVER THE INPUT: true; the input reads as it did. -/
def fnExactSubRacksSpec : ChangeSpec := { name := "fnExactSubRacks", fn := fun _ => fun
  | [d] => { results := [.lit (.bool true)], args := [d] }
  | _ => none }
def fnExactSubRacksRow : OpenClaim := { program := "ythpjinfkagllfaa", sum := "54f5d57e9fcb7ba09acb4ec55ea872b57952d6b2196bdbfdf8b3771fde71367f", func := "loop.example/g00911/laws.FnExactSubRacks", spec := "fnExactSubRacks", inPlace := ["internal/reflectlite.ValueOf", "internal/reflectlite.Swapper", "(internal/reflectlite.Value).Len"], unfollowed := true, recurses := true, apart := false }
def FnExactSubRacksSaid : Prop := fnExactSubRacksRow.holds Try.pinned (OpenSpec.ofChange fnExactSubRacksSpec)

/-- ITS FALSE NEIGHBOUR: 'it returns false'. Refute it at one input. -/
def fnExactSubRacksWrong : ChangeSpec := { name := "fnExactSubRacks", fn := fun _ => fun
  | [d] => { results := [.lit (.bool false)], args := [d] }
  | _ => none }
def FnExactSubRacksWrongFalsely : Prop := fnExactSubRacksRow.holds Try.pinned (OpenSpec.ofChange fnExactSubRacksWrong)

/-- 'laws.FnSubRacks': WHATEVER THE INPUT: true; the input reads as it did. -/
def fnSubRacksSpec : ChangeSpec := { name := "fnSubRacks", fn := fun _ => fun
  | [d] => { results := [.lit (.bool true)], args := [d] }
  | _ => none }
def fnSubRacksRow : OpenClaim := { program := "ythpjinfkagllfaa", sum := "54f5d57e9fcb7ba09acb4ec55ea872b57952d6b2196bdbfdf8b3771fde71367f", func := "loop.example/g00911/laws.FnSubRacks", spec := "fnSubRacks", inPlace := ["internal/reflectlite.ValueOf", "internal/reflectlite.Swapper", "(internal/reflectlite.Value).Len", "internal/abi.NoEscape"], unfollowed := true, recurses := true, apart := false }
def FnSubRacksSaid : Prop := fnSubRacksRow.holds Try.pinned (OpenSpec.ofChange fnSubRacksSpec)

/-- ITS FALSE NEIGHBOUR: 'it returns false'. Refute it at one input. -/
def fnSubRacksWrong : ChangeSpec := { name := "fnSubRacks", fn := fun _ => fun
  | [d] => { results := [.lit (.bool false)], args := [d] }
  | _ => none }
def FnSubRacksWrongFalsely : Prop := fnSubRacksRow.holds Try.pinned (OpenSpec.ofChange fnSubRacksWrong)

/-- 'laws.FnExactAnagramsOf': WHATEVER THE INPUT: true; the input reads as it did. -/
def fnExactAnagramsOfSpec : ChangeSpec := { name := "fnExactAnagramsOf", fn := fun _ => fun
  | [d1, d2] => { results := [.lit (.bool true)], args := [d1, d2] }
  | _ => none }
def fnExactAnagramsOfRow : OpenClaim := { program := "ythpjinfkagllfaa", sum := "54f5d57e9fcb7ba09acb4ec55ea872b57952d6b2196bdbfdf8b3771fde71367f", func := "loop.example/g00911/laws.FnExactAnagramsOf", spec := "fnExactAnagramsOf", inPlace := ["internal/abi.NoEscape"], apart := false }
def FnExactAnagramsOfSaid : Prop := fnExactAnagramsOfRow.holds Try.pinned (OpenSpec.ofChange fnExactAnagramsOfSpec)

/-- ITS FALSE NEIGHBOUR: 'it returns false'. Refute it at one input. -/
def fnExactAnagramsOfWrong : ChangeSpec := { name := "fnExactAnagramsOf", fn := fun _ => fun
  | [d1, d2] => { results := [.lit (.bool false)], args := [d1, d2] }
  | _ => none }
def FnExactAnagramsOfWrongFalsely : Prop := fnExactAnagramsOfRow.holds Try.pinned (OpenSpec.ofChange fnExactAnagramsOfWrong)

/-- 'laws.FnAnagrams': WHATEVER THE INPUT: true; the input reads as it did. -/
def fnAnagramsSpec : ChangeSpec := { name := "fnAnagrams", fn := fun _ => fun
  | [d1, d2] => { results := [.lit (.bool true)], args := [d1, d2] }
  | _ => none }
def fnAnagramsRow : OpenClaim := { program := "ythpjinfkagllfaa", sum := "54f5d57e9fcb7ba09acb4ec55ea872b57952d6b2196bdbfdf8b3771fde71367f", func := "loop.example/g00911/laws.FnAnagrams", spec := "fnAnagrams", inPlace := ["internal/abi.NoEscape"], unfollowed := true, recurses := true, apart := false }
def FnAnagramsSaid : Prop := fnAnagramsRow.holds Try.pinned (OpenSpec.ofChange fnAnagramsSpec)

/-- ITS FALSE NEIGHBOUR: 'it returns false'. Refute it at one input. -/
def fnAnagramsWrong : ChangeSpec := { name := "fnAnagrams", fn := fun _ => fun
  | [d1, d2] => { results := [.lit (.bool false)], args := [d1, d2] }
  | _ => none }
def FnAnagramsWrongFalsely : Prop := fnAnagramsRow.holds Try.pinned (OpenSpec.ofChange fnAnagramsWrong)

/- THE SECOND FORM. 'bulk': how many values and letters a reading holds, each counted each time it is reached (what is shared counts as often as it is met; a slice's spare places count too). A statement '..UptoSaid' is the law's where the arguments, and the package variables that the reading takes, are together of bulk at most 1048576: NARROWER than '..Said'. Prove '..Said' where nothing that the law and all that it calls make is longer than what came in: it says more and counts as full. Else prove '..UptoSaid'. A law counts once. -/
mutual
def uptoBulk {H : Type} : DataW H → Nat
  | .lit (.string bytes) => bytes.length + 1
  | .lit _ => 1
  | .nil => 1
  | .ptr d => uptoBulk d + 1
  | .slice elems spare => uptoBulkAll elems + uptoBulkAll spare + 1
  | .agg parts => uptoBulkAll parts + 1
  | .iface _ d => uptoBulk d + 1
  | .map entries => uptoBulkEntries entries + 1
  | .held _ => 1
def uptoBulkAll {H : Type} : List (DataW H) → Nat
  | [] => 0
  | d :: r => uptoBulk d + uptoBulkAll r
def uptoBulkEntries {H : Type} : List (Lit × DataW H) → Nat
  | [] => 0
  | x :: r => uptoBulkEntry x + uptoBulkEntries r
def uptoBulkEntry {H : Type} : Lit × DataW H → Nat
  | (.string bytes, d) => bytes.length + uptoBulk d + 1
  | (_, d) => uptoBulk d + 1
 end
def uptoSmall : (H : Type) → List (DataW H) → Bool := fun _ ds => decide (uptoBulkAll ds ≤ 1048576)
def OpenSpec.upto (s : _root_.Go.ChangeSpec) : _root_.Go.OpenSpec := { _root_.Go.OpenSpec.ofChange s with cond := some uptoSmall }

/-- 'laws.FnExactWaysToMake', WHERE WHAT IT READS IS OF BULK AT MOST 1048576: true; the input reads as it did. -/
def fnExactWaysToMakeUptoRow : OpenClaim := { program := "ythpjinfkagllfaa", sum := "54f5d57e9fcb7ba09acb4ec55ea872b57952d6b2196bdbfdf8b3771fde71367f", func := "loop.example/g00911/laws.FnExactWaysToMake", spec := "fnExactWaysToMake", unfollowed := true, recurses := true, apart := false, narrowed := true }
def FnExactWaysToMakeUptoSaid : Prop := fnExactWaysToMakeUptoRow.holds Try.pinned (OpenSpec.upto fnExactWaysToMakeSpec)

/-- 'laws.FnExactSubRacks', WHERE WHAT IT READS IS OF BULK AT MOST 1048576: true; the input reads as it did. -/
def fnExactSubRacksUptoRow : OpenClaim := { program := "ythpjinfkagllfaa", sum := "54f5d57e9fcb7ba09acb4ec55ea872b57952d6b2196bdbfdf8b3771fde71367f", func := "loop.example/g00911/laws.FnExactSubRacks", spec := "fnExactSubRacks", inPlace := ["internal/reflectlite.ValueOf", "internal/reflectlite.Swapper", "(internal/reflectlite.Value).Len"], unfollowed := true, recurses := true, apart := false, narrowed := true }
def FnExactSubRacksUptoSaid : Prop := fnExactSubRacksUptoRow.holds Try.pinned (OpenSpec.upto fnExactSubRacksSpec)

/-- 'laws.FnSubRacks', WHERE WHAT IT READS IS OF BULK AT MOST 1048576: true; the input reads as it did. -/
def fnSubRacksUptoRow : OpenClaim := { program := "ythpjinfkagllfaa", sum := "54f5d57e9fcb7ba09acb4ec55ea872b57952d6b2196bdbfdf8b3771fde71367f", func := "loop.example/g00911/laws.FnSubRacks", spec := "fnSubRacks", inPlace := ["internal/reflectlite.ValueOf", "internal/reflectlite.Swapper", "(internal/reflectlite.Value).Len", "internal/abi.NoEscape"], unfollowed := true, recurses := true, apart := false, narrowed := true }
def FnSubRacksUptoSaid : Prop := fnSubRacksUptoRow.holds Try.pinned (OpenSpec.upto fnSubRacksSpec)

/-- 'laws.FnExactAnagramsOf', WHERE WHAT IT READS IS OF BULK AT MOST 1048576: true; the input reads as it did. -/
def fnExactAnagramsOfUptoRow : OpenClaim := { program := "ythpjinfkagllfaa", sum := "54f5d57e9fcb7ba09acb4ec55ea872b57952d6b2196bdbfdf8b3771fde71367f", func := "loop.example/g00911/laws.FnExactAnagramsOf", spec := "fnExactAnagramsOf", inPlace := ["internal/abi.NoEscape"], apart := false, narrowed := true }
def FnExactAnagramsOfUptoSaid : Prop := fnExactAnagramsOfUptoRow.holds Try.pinned (OpenSpec.upto fnExactAnagramsOfSpec)

/-- 'laws.FnAnagrams', WHERE WHAT IT READS IS OF BULK AT MOST 1048576: true; the input reads as it did. -/
def fnAnagramsUptoRow : OpenClaim := { program := "ythpjinfkagllfaa", sum := "54f5d57e9fcb7ba09acb4ec55ea872b57952d6b2196bdbfdf8b3771fde71367f", func := "loop.example/g00911/laws.FnAnagrams", spec := "fnAnagrams", inPlace := ["internal/abi.NoEscape"], unfollowed := true, recurses := true, apart := false, narrowed := true }
def FnAnagramsUptoSaid : Prop := fnAnagramsUptoRow.holds Try.pinned (OpenSpec.upto fnAnagramsSpec)

end Rows
end Go.Proofs.Ythpjinfkagllfaa
