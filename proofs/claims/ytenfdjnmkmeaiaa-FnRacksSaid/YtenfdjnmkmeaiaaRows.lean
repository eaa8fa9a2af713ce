/-
  No cell of these rows narrows 'for every input' (looked for: loops, veiled, ifaces, maps, wideKeys, modest, calm, conditions, laid).
  DERIVED. THE GIVEN ROWS OF THIS SEAT. 11 by the template 'for every input the law returns true; each argument reads behind the call as it read before'; 0 by the template 'total and deterministic' (their statements: YtenfdjnmkmeaiaaTotals.lean).
  GIVEN WITH THE SEED: the statements are not yours to turn. If you find one false, say at which input.
  Laid BY PROGRAM, IN A SANDBOX (cutbox-rows.mjs): the forced cells as the released guide's own fill.sh prints them over the translation bb411cd4803f28d8… (all of the seat's roots in one cut). By AI agents, Wed Nov 11 2026. No macro, syntax, notation, axiom, sorry.
-/
import Derived.Test.YtenfdjnmkmeaiaaChecked
import GoSem.Claim
import GoSem.ClaimJoined
import GoSem.ClaimMapViews
import Derived.JoinedTies
import Derived.KernelRfl
namespace Go.Proofs.Ytenfdjnmkmeaiaa
/- THE CELL 'sum', in the pinned program and in every row, IS THE sha256 OF THE DUMP (.gsa) THAT YtenfdjnmkmeaiaaProg.lean LOADS. Nothing in Lean hashes anything: it is a label: what it is worth is what the hold of that sum in a sandbox is worth. -/
noncomputable def Try.pinned : Pinned := { name := "ytenfdjnmkmeaiaa", sum := "bb411cd4803f28d82805f4994f6b8d4330f6a7c05cc98beaa96bb80a84d8840a", checked := Try.checked }
namespace Rows
def none {H : Type} : Left H := { results := [], args := [] }

/-- 'laws.FnExactValidRack': WHATEVER THE INPUT: true; the input reads as it did. -/
def fnExactValidRackSpec : ChangeSpec := { name := "fnExactValidRack", fn := fun _ => fun
  | [d] => { results := [.lit (.bool true)], args := [d] }
  | _ => none }
def fnExactValidRackRow : OpenClaim := { program := "ytenfdjnmkmeaiaa", sum := "bb411cd4803f28d82805f4994f6b8d4330f6a7c05cc98beaa96bb80a84d8840a", func := "loop.example/g00911/laws.FnExactValidRack", spec := "fnExactValidRack", apart := false }
def FnExactValidRackSaid : Prop := fnExactValidRackRow.holds Try.pinned (OpenSpec.ofChange fnExactValidRackSpec)

/-- ITS FALSE NEIGHBOUR: 'it returns false'. Refute it at one input. -/
def fnExactValidRackWrong : ChangeSpec := { name := "fnExactValidRack", fn := fun _ => fun
  | [d] => { results := [.lit (.bool false)], args := [d] }
  | _ => none }
def FnExactValidRackWrongFalsely : Prop := fnExactValidRackRow.holds Try.pinned (OpenSpec.ofChange fnExactValidRackWrong)

/-- 'laws.FnExactSortTiles': WHATEVER THE INPUT: true; the input reads as it did. -/
def fnExactSortTilesSpec : ChangeSpec := { name := "fnExactSortTiles", fn := fun _ => fun
  | [d] => { results := [.lit (.bool true)], args := [d] }
  | _ => none }
def fnExactSortTilesRow : OpenClaim := { program := "ytenfdjnmkmeaiaa", sum := "bb411cd4803f28d82805f4994f6b8d4330f6a7c05cc98beaa96bb80a84d8840a", func := "loop.example/g00911/laws.FnExactSortTiles", spec := "fnExactSortTiles", inPlace := ["internal/abi.NoEscape"], apart := false }
def FnExactSortTilesSaid : Prop := fnExactSortTilesRow.holds Try.pinned (OpenSpec.ofChange fnExactSortTilesSpec)

/-- ITS FALSE NEIGHBOUR: 'it returns false'. Refute it at one input. -/
def fnExactSortTilesWrong : ChangeSpec := { name := "fnExactSortTiles", fn := fun _ => fun
  | [d] => { results := [.lit (.bool false)], args := [d] }
  | _ => none }
def FnExactSortTilesWrongFalsely : Prop := fnExactSortTilesRow.holds Try.pinned (OpenSpec.ofChange fnExactSortTilesWrong)

/-- 'laws.FnExactCanMake': WHATEVER THE INPUT: true; the input reads as it did. -/
def fnExactCanMakeSpec : ChangeSpec := { name := "fnExactCanMake", fn := fun _ => fun
  | [d1, d2] => { results := [.lit (.bool true)], args := [d1, d2] }
  | _ => none }
def fnExactCanMakeRow : OpenClaim := { program := "ytenfdjnmkmeaiaa", sum := "bb411cd4803f28d82805f4994f6b8d4330f6a7c05cc98beaa96bb80a84d8840a", func := "loop.example/g00911/laws.FnExactCanMake", spec := "fnExactCanMake", apart := false }
def FnExactCanMakeSaid : Prop := fnExactCanMakeRow.holds Try.pinned (OpenSpec.ofChange fnExactCanMakeSpec)

/-- ITS FALSE NEIGHBOUR: 'it returns false'. Refute it at one input. -/
def fnExactCanMakeWrong : ChangeSpec := { name := "fnExactCanMake", fn := fun _ => fun
  | [d1, d2] => { results := [.lit (.bool false)], args := [d1, d2] }
  | _ => none }
def FnExactCanMakeWrongFalsely : Prop := fnExactCanMakeRow.holds Try.pinned (OpenSpec.ofChange fnExactCanMakeWrong)

/-- 'laws.FnExactCommonTiles': WHATEVER THE INPUT: true; the input reads as it did. -/
def fnExactCommonTilesSpec : ChangeSpec := { name := "fnExactCommonTiles", fn := fun _ => fun
  | [d1, d2] => { results := [.lit (.bool true)], args := [d1, d2] }
  | _ => none }
def fnExactCommonTilesRow : OpenClaim := { program := "ytenfdjnmkmeaiaa", sum := "bb411cd4803f28d82805f4994f6b8d4330f6a7c05cc98beaa96bb80a84d8840a", func := "loop.example/g00911/laws.FnExactCommonTiles", spec := "fnExactCommonTiles", inPlace := ["internal/abi.NoEscape"], apart := false }
def FnExactCommonTilesSaid : Prop := fnExactCommonTilesRow.holds Try.pinned (OpenSpec.ofChange fnExactCommonTilesSpec)

/-- ITS FALSE NEIGHBOUR: 'it returns false'. Refute it at one input. -/
def fnExactCommonTilesWrong : ChangeSpec := { name := "fnExactCommonTiles", fn := fun _ => fun
  | [d1, d2] => { results := [.lit (.bool false)], args := [d1, d2] }
  | _ => none }
def FnExactCommonTilesWrongFalsely : Prop := fnExactCommonTilesRow.holds Try.pinned (OpenSpec.ofChange fnExactCommonTilesWrong)

/-- 'laws.FnExactAddTiles': WHATEVER THE INPUT: true; the input reads as it did. -/
def fnExactAddTilesSpec : ChangeSpec := { name := "fnExactAddTiles", fn := fun _ => fun
  | [d1, d2] => { results := [.lit (.bool true)], args := [d1, d2] }
  | _ => none }
def fnExactAddTilesRow : OpenClaim := { program := "ytenfdjnmkmeaiaa", sum := "bb411cd4803f28d82805f4994f6b8d4330f6a7c05cc98beaa96bb80a84d8840a", func := "loop.example/g00911/laws.FnExactAddTiles", spec := "fnExactAddTiles", inPlace := ["internal/abi.NoEscape"], apart := false }
def FnExactAddTilesSaid : Prop := fnExactAddTilesRow.holds Try.pinned (OpenSpec.ofChange fnExactAddTilesSpec)

/-- ITS FALSE NEIGHBOUR: 'it returns false'. Refute it at one input. -/
def fnExactAddTilesWrong : ChangeSpec := { name := "fnExactAddTiles", fn := fun _ => fun
  | [d1, d2] => { results := [.lit (.bool false)], args := [d1, d2] }
  | _ => none }
def FnExactAddTilesWrongFalsely : Prop := fnExactAddTilesRow.holds Try.pinned (OpenSpec.ofChange fnExactAddTilesWrong)

/-- 'laws.FnExactContainsTiles': WHATEVER THE INPUT: true; the input reads as it did. -/
def fnExactContainsTilesSpec : ChangeSpec := { name := "fnExactContainsTiles", fn := fun _ => fun
  | [d1, d2] => { results := [.lit (.bool true)], args := [d1, d2] }
  | _ => none }
def fnExactContainsTilesRow : OpenClaim := { program := "ytenfdjnmkmeaiaa", sum := "bb411cd4803f28d82805f4994f6b8d4330f6a7c05cc98beaa96bb80a84d8840a", func := "loop.example/g00911/laws.FnExactContainsTiles", spec := "fnExactContainsTiles", inPlace := ["internal/abi.NoEscape"], apart := false }
def FnExactContainsTilesSaid : Prop := fnExactContainsTilesRow.holds Try.pinned (OpenSpec.ofChange fnExactContainsTilesSpec)

/-- ITS FALSE NEIGHBOUR: 'it returns false'. Refute it at one input. -/
def fnExactContainsTilesWrong : ChangeSpec := { name := "fnExactContainsTiles", fn := fun _ => fun
  | [d1, d2] => { results := [.lit (.bool false)], args := [d1, d2] }
  | _ => none }
def FnExactContainsTilesWrongFalsely : Prop := fnExactContainsTilesRow.holds Try.pinned (OpenSpec.ofChange fnExactContainsTilesWrong)

/-- 'laws.FnExactTakeTiles': WHATEVER THE INPUT: true; the input reads as it did. -/
def fnExactTakeTilesSpec : ChangeSpec := { name := "fnExactTakeTiles", fn := fun _ => fun
  | [d1, d2] => { results := [.lit (.bool true)], args := [d1, d2] }
  | _ => none }
def fnExactTakeTilesRow : OpenClaim := { program := "ytenfdjnmkmeaiaa", sum := "bb411cd4803f28d82805f4994f6b8d4330f6a7c05cc98beaa96bb80a84d8840a", func := "loop.example/g00911/laws.FnExactTakeTiles", spec := "fnExactTakeTiles", inPlace := ["internal/abi.NoEscape"], apart := false }
def FnExactTakeTilesSaid : Prop := fnExactTakeTilesRow.holds Try.pinned (OpenSpec.ofChange fnExactTakeTilesSpec)

/-- ITS FALSE NEIGHBOUR: 'it returns false'. Refute it at one input. -/
def fnExactTakeTilesWrong : ChangeSpec := { name := "fnExactTakeTiles", fn := fun _ => fun
  | [d1, d2] => { results := [.lit (.bool false)], args := [d1, d2] }
  | _ => none }
def FnExactTakeTilesWrongFalsely : Prop := fnExactTakeTilesRow.holds Try.pinned (OpenSpec.ofChange fnExactTakeTilesWrong)

/-- 'laws.FnRacks': WHATEVER THE INPUT: true; the input reads as it did. -/
def fnRacksSpec : ChangeSpec := { name := "fnRacks", fn := fun _ => fun
  | [d] => { results := [.lit (.bool true)], args := [d] }
  | _ => none }
def fnRacksRow : OpenClaim := { program := "ytenfdjnmkmeaiaa", sum := "bb411cd4803f28d82805f4994f6b8d4330f6a7c05cc98beaa96bb80a84d8840a", func := "loop.example/g00911/laws.FnRacks", spec := "fnRacks", inPlace := ["internal/abi.NoEscape"], apart := false }
def FnRacksSaid : Prop := fnRacksRow.holds Try.pinned (OpenSpec.ofChange fnRacksSpec)

/-- ITS FALSE NEIGHBOUR: 'it returns false'. Refute it at one input. -/
def fnRacksWrong : ChangeSpec := { name := "fnRacks", fn := fun _ => fun
  | [d] => { results := [.lit (.bool false)], args := [d] }
  | _ => none }
def FnRacksWrongFalsely : Prop := fnRacksRow.holds Try.pinned (OpenSpec.ofChange fnRacksWrong)

/-- 'laws.FnExactWaysToMake': WHATEVER THE INPUT: true; the input reads as it did. -/
def fnExactWaysToMakeSpec : ChangeSpec := { name := "fnExactWaysToMake", fn := fun _ => fun
  | [d1, d2] => { results := [.lit (.bool true)], args := [d1, d2] }
  | _ => none }
def fnExactWaysToMakeRow : OpenClaim := { program := "ytenfdjnmkmeaiaa", sum := "bb411cd4803f28d82805f4994f6b8d4330f6a7c05cc98beaa96bb80a84d8840a", func := "loop.example/g00911/laws.FnExactWaysToMake", spec := "fnExactWaysToMake", unfollowed := true, recurses := true, apart := false }
def FnExactWaysToMakeSaid : Prop := fnExactWaysToMakeRow.holds Try.pinned (OpenSpec.ofChange fnExactWaysToMakeSpec)

/-- ITS FALSE NEIGHBOUR: 'it returns false'. Refute it at one input. -/
def fnExactWaysToMakeWrong : ChangeSpec := { name := "fnExactWaysToMake", fn := fun _ => fun
  | [d1, d2] => { results := [.lit (.bool false)], args := [d1, d2] }
  | _ => none }
def FnExactWaysToMakeWrongFalsely : Prop := fnExactWaysToMakeRow.holds Try.pinned (OpenSpec.ofChange fnExactWaysToMakeWrong)

/-- 'laws.FnExactSubRacks': WHATEVER THE INPUT: true; the input reads as it did. -/
def fnExactSubRacksSpec : ChangeSpec := { name := "fnExactSubRacks", fn := fun _ => fun
  | [d] => { results := [.lit (.bool true)], args := [d] }
  | _ => none }
def fnExactSubRacksRow : OpenClaim := { program := "ytenfdjnmkmeaiaa", sum := "bb411cd4803f28d82805f4994f6b8d4330f6a7c05cc98beaa96bb80a84d8840a", func := "loop.example/g00911/laws.FnExactSubRacks", spec := "fnExactSubRacks", inPlace := ["internal/reflectlite.ValueOf", "internal/reflectlite.Swapper", "(internal/reflectlite.Value).Len"], unfollowed := true, recurses := true, apart := false }
def FnExactSubRacksSaid : Prop := fnExactSubRacksRow.holds Try.pinned (OpenSpec.ofChange fnExactSubRacksSpec)

/-- ITS FALSE NEIGHBOUR: 'it returns false'. Refute it at one input. -/
def fnExactSubRacksWrong : ChangeSpec := { name := "fnExactSubRacks", fn := fun _ => fun
  | [d] => { results := [.lit (.bool false)], args := [d] }
  | _ => none }
def FnExactSubRacksWrongFalsely : Prop := fnExactSubRacksRow.holds Try.pinned (OpenSpec.ofChange fnExactSubRacksWrong)

/-- 'laws.FnSubRacks': WHATEVER THE INPUT: true; the input reads as it did. -/
def fnSubRacksSpec : ChangeSpec := { name := "fnSubRacks", fn := fun _ => fun
  | [d] => { results := [.lit (.bool true)], args := [d] }
  | _ => none }
def fnSubRacksRow : OpenClaim := { program := "ytenfdjnmkmeaiaa", sum := "bb411cd4803f28d82805f4994f6b8d4330f6a7c05cc98beaa96bb80a84d8840a", func := "loop.example/g00911/laws.FnSubRacks", spec := "fnSubRacks", inPlace := ["internal/reflectlite.ValueOf", "internal/reflectlite.Swapper", "(internal/reflectlite.Value).Len", "internal/abi.NoEscape"], unfollowed := true, recurses := true, apart := false }
def FnSubRacksSaid : Prop := fnSubRacksRow.holds Try.pinned (OpenSpec.ofChange fnSubRacksSpec)

/-- ITS FALSE NEIGHBOUR: 'it returns false'. Refute it at one input. -/
def fnSubRacksWrong : ChangeSpec := { name := "fnSubRacks", fn := fun _ => fun
  | [d] => { results := [.lit (.bool false)], args := [d] }
  | _ => none }
def FnSubRacksWrongFalsely : Prop := fnSubRacksRow.holds Try.pinned (OpenSpec.ofChange fnSubRacksWrong)

/- THE SECOND FORM. 'bulk': how many values and letters a reading holds, each counted each time it is reached (what is shared counts as often as it is met; a slice's spare places count too). A statement '..UptoSaid' is the law's where the arguments, and the package variables that the reading takes, are together of bulk at most 1048576: NARROWER than '..Said'. Prove '..Said' where nothing that the law and all that it calls make is longer than what came in: it says more and counts as full. Else prove '..UptoSaid'. A law counts once. -/
mutual
def uptoBulk {H : Type} : DataW H → Nat
  | .lit (.string bytes) => bytes.length + 1
  | .lit _ => 1
  | .nil => 1
  | .ptr d => uptoBulk d + 1
  | .slice elems spare => uptoBulkAll elems + uptoBulkAll spare + 1
  | .agg parts => uptoBulkAll parts + 1
  | .iface _ d => uptoBulk d + 1
  | .map entries => uptoBulkEntries entries + 1
  | .held _ => 1
def uptoBulkAll {H : Type} : List (DataW H) → Nat
  | [] => 0
  | d :: r => uptoBulk d + uptoBulkAll r
def uptoBulkEntries {H : Type} : List (Lit × DataW H) → Nat
  | [] => 0
  | x :: r => uptoBulkEntry x + uptoBulkEntries r
def uptoBulkEntry {H : Type} : Lit × DataW H → Nat
  | (.string bytes, d) => bytes.length + uptoBulk d + 1
  | (_, d) => uptoBulk d + 1
 end
def uptoSmall : (H : Type) → List (DataW H) → Bool := fun _ ds => decide (uptoBulkAll ds ≤ 1048576)
def OpenSpec.upto (s : _root_.Go.ChangeSpec) : _root_.Go.OpenSpec := { _root_.Go.OpenSpec.ofChange s with cond := some uptoSmall }

/-- 'laws.FnExactValidRack', WHERE WHAT IT READS IS OF BULK AT MOST 1048576: true; the input reads as it did. -/
def fnExactValidRackUptoRow : OpenClaim := { program := "ytenfdjnmkmeaiaa", sum := "bb411cd4803f28d82805f4994f6b8d4330f6a7c05cc98beaa96bb80a84d8840a", func := "loop.example/g00911/laws.FnExactValidRack", spec := "fnExactValidRack", apart := false, narrowed := true }
def FnExactValidRackUptoSaid : Prop := fnExactValidRackUptoRow.holds Try.pinned (OpenSpec.upto fnExactValidRackSpec)

/-- 'laws.FnExactSortTiles', WHERE WHAT IT READS IS OF BULK AT MOST 1048576: true; the input reads as it did. -/
def fnExactSortTilesUptoRow : OpenClaim := { program := "ytenfdjnmkmeaiaa", sum := "bb411cd4803f28d82805f4994f6b8d4330f6a7c05cc98beaa96bb80a84d8840a", func := "loop.example/g00911/laws.FnExactSortTiles", spec := "fnExactSortTiles", inPlace := ["internal/abi.NoEscape"], apart := false, narrowed := true }
def FnExactSortTilesUptoSaid : Prop := fnExactSortTilesUptoRow.holds Try.pinned (OpenSpec.upto fnExactSortTilesSpec)

/-- 'laws.FnExactCanMake', WHERE WHAT IT READS IS OF BULK AT MOST 1048576: true; the input reads as it did. -/
def fnExactCanMakeUptoRow : OpenClaim := { program := "ytenfdjnmkmeaiaa", sum := "bb411cd4803f28d82805f4994f6b8d4330f6a7c05cc98beaa96bb80a84d8840a", func := "loop.example/g00911/laws.FnExactCanMake", spec := "fnExactCanMake", apart := false, narrowed := true }
def FnExactCanMakeUptoSaid : Prop := fnExactCanMakeUptoRow.holds Try.pinned (OpenSpec.upto fnExactCanMakeSpec)

/-- 'laws.FnExactCommonTiles', WHERE WHAT IT READS IS OF BULK AT MOST 1048576: true; the input reads as it did. -/
def fnExactCommonTilesUptoRow : OpenClaim := { program := "ytenfdjnmkmeaiaa", sum := "bb411cd4803f28d82805f4994f6b8d4330f6a7c05cc98beaa96bb80a84d8840a", func := "loop.example/g00911/laws.FnExactCommonTiles", spec := "fnExactCommonTiles", inPlace := ["internal/abi.NoEscape"], apart := false, narrowed := true }
def FnExactCommonTilesUptoSaid : Prop := fnExactCommonTilesUptoRow.holds Try.pinned (OpenSpec.upto fnExactCommonTilesSpec)

/-- 'laws.FnExactAddTiles', WHERE WHAT IT READS IS OF BULK AT MOST 1048576: true; the input reads as it did. -/
def fnExactAddTilesUptoRow : OpenClaim := { program := "ytenfdjnmkmeaiaa", sum := "bb411cd4803f28d82805f4994f6b8d4330f6a7c05cc98beaa96bb80a84d8840a", func := "loop.example/g00911/laws.FnExactAddTiles", spec := "fnExactAddTiles", inPlace := ["internal/abi.NoEscape"], apart := false, narrowed := true }
def FnExactAddTilesUptoSaid : Prop := fnExactAddTilesUptoRow.holds Try.pinned (OpenSpec.upto fnExactAddTilesSpec)

/-- 'laws.FnExactContainsTiles', WHERE WHAT IT READS IS OF BULK AT MOST 1048576: true; the input reads as it did. -/
def fnExactContainsTilesUptoRow : OpenClaim := { program := "ytenfdjnmkmeaiaa", sum := "bb411cd4803f28d82805f4994f6b8d4330f6a7c05cc98beaa96bb80a84d8840a", func := "loop.example/g00911/laws.FnExactContainsTiles", spec := "fnExactContainsTiles", inPlace := ["internal/abi.NoEscape"], apart := false, narrowed := true }
def FnExactContainsTilesUptoSaid : Prop := fnExactContainsTilesUptoRow.holds Try.pinned (OpenSpec.upto fnExactContainsTilesSpec)

/-- 'laws.FnExactTakeTiles', WHERE WHAT IT READS IS OF BULK AT MOST 1048576: true; the input reads as it did. -/
def fnExactTakeTilesUptoRow : OpenClaim := { program := "ytenfdjnmkmeaiaa", sum := "bb411cd4803f28d82805f4994f6b8d4330f6a7c05cc98beaa96bb80a84d8840a", func := "loop.example/g00911/laws.FnExactTakeTiles", spec := "fnExactTakeTiles", inPlace := ["internal/abi.NoEscape"], apart := false, narrowed := true }
def FnExactTakeTilesUptoSaid : Prop := fnExactTakeTilesUptoRow.holds Try.pinned (OpenSpec.upto fnExactTakeTilesSpec)

/-- 'laws.FnRacks', WHERE WHAT IT READS IS OF BULK AT MOST 1048576: true; the input reads as it did. -/
def fnRacksUptoRow : OpenClaim := { program := "ytenfdjnmkmeaiaa", sum := "bb411cd4803f28d82805f4994f6b8d4330f6a7c05cc98beaa96bb80a84d8840a", func := "loop.example/g00911/laws.FnRacks", spec := "fnRacks", inPlace := ["internal/abi.NoEscape"], apart := false, narrowed := true }
def FnRacksUptoSaid : Prop := fnRacksUptoRow.holds Try.pinned (OpenSpec.upto fnRacksSpec)

/-- 'laws.FnExactWaysToMake', WHERE WHAT IT READS IS OF BULK AT MOST 1048576: true; the input reads as it did. -/
def fnExactWaysToMakeUptoRow : OpenClaim := { program := "ytenfdjnmkmeaiaa", sum := "bb411cd4803f28d82805f4994f6b8d4330f6a7c05cc98beaa96bb80a84d8840a", func := "loop.example/g00911/laws.FnExactWaysToMake", spec := "fnExactWaysToMake", unfollowed := true, recurses := true, apart := false, narrowed := true }
def FnExactWaysToMakeUptoSaid : Prop := fnExactWaysToMakeUptoRow.holds Try.pinned (OpenSpec.upto fnExactWaysToMakeSpec)

/-- 'laws.FnExactSubRacks', WHERE WHAT IT READS IS OF BULK AT MOST 1048576: true; the input reads as it did. -/
def fnExactSubRacksUptoRow : OpenClaim := { program := "ytenfdjnmkmeaiaa", sum := "bb411cd4803f28d82805f4994f6b8d4330f6a7c05cc98beaa96bb80a84d8840a", func := "loop.example/g00911/laws.FnExactSubRacks", spec := "fnExactSubRacks", inPlace := ["internal/reflectlite.ValueOf", "internal/reflectlite.Swapper", "(internal/reflectlite.Value).Len"], unfollowed := true, recurses := true, apart := false, narrowed := true }
def FnExactSubRacksUptoSaid : Prop := fnExactSubRacksUptoRow.holds Try.pinned (OpenSpec.upto fnExactSubRacksSpec)

/-- 'laws.FnSubRacks', WHERE WHAT IT READS IS OF BULK AT MOST 1048576: true; the input reads as it did. -/
def fnSubRacksUptoRow : OpenClaim := { program := "ytenfdjnmkmeaiaa", sum := "bb411cd4803f28d82805f4994f6b8d4330f6a7c05cc98beaa96bb80a84d8840a", func := "loop.example/g00911/laws.FnSubRacks", spec := "fnSubRacks", inPlace := ["internal/reflectlite.ValueOf", "internal/reflectlite.Swapper", "(internal/reflectlite.Value).Len", "internal/abi.NoEscape"], unfollowed := true, recurses := true, apart := false, narrowed := true }
def FnSubRacksUptoSaid : Prop := fnSubRacksUptoRow.holds Try.pinned (OpenSpec.upto fnSubRacksSpec)

end Rows
end Go.Proofs.Ytenfdjnmkmeaiaa
