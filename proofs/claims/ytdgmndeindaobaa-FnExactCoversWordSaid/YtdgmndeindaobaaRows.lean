/-
  No cell of these rows narrows 'for every input' (looked for: loops, veiled, ifaces, maps, wideKeys, modest, calm, conditions, laid).
  DERIVED. THE GIVEN ROWS OF THIS SEAT. 9 by the template 'for every input the law returns true; each argument reads behind the call as it read before'; 0 by the template 'total and deterministic' (their statements: YtdgmndeindaobaaTotals.lean).
  GIVEN WITH THE SEED: the statements are not yours to turn. If you find one false, say at which input.
  Laid BY PROGRAM, IN A SANDBOX (cutbox-rows.mjs): the forced cells as the released guide's own fill.sh prints them over the translation d5a3877fa5e3ff4e… (all of the seat's roots in one cut). By AI agents, Wed Nov 11 2026. No macro, syntax, notation, axiom, sorry.
-/
import Derived.Test.YtdgmndeindaobaaChecked
import GoSem.Claim
import GoSem.ClaimJoined
import GoSem.ClaimMapViews
import Derived.JoinedTies
import Derived.KernelRfl
namespace Go.Proofs.Ytdgmndeindaobaa
/- THE CELL 'sum', in the pinned program and in every row, IS THE sha256 OF THE DUMP (.gsa) THAT YtdgmndeindaobaaProg.lean LOADS. Nothing in Lean hashes anything: it is a label: what it is worth is what the hold of that sum in a sandbox is worth. -/
noncomputable def Try.pinned : Pinned := { name := "ytdgmndeindaobaa", sum := "d5a3877fa5e3ff4e449064ea234acca7253f4a093fe1918cd5aa2adca700a5aa", checked := Try.checked }
namespace Rows
def none {H : Type} : Left H := { results := [], args := [] }

/-- 'laws.FnExactSameTiles': WHATEVER THE INPUT: true; the input reads as it did. -/
def fnExactSameTilesSpec : ChangeSpec := { name := "fnExactSameTiles", fn := fun _ => fun
  | [d1, d2] => { results := [.lit (.bool true)], args := [d1, d2] }
  | _ => none }
def fnExactSameTilesRow : OpenClaim := { program := "ytdgmndeindaobaa", sum := "d5a3877fa5e3ff4e449064ea234acca7253f4a093fe1918cd5aa2adca700a5aa", func := "loop.example/g00911/laws.FnExactSameTiles", spec := "fnExactSameTiles", apart := false }
def FnExactSameTilesSaid : Prop := fnExactSameTilesRow.holds Try.pinned (OpenSpec.ofChange fnExactSameTilesSpec)

/-- ITS FALSE NEIGHBOUR: 'it returns false'. Refute it at one input. -/
def fnExactSameTilesWrong : ChangeSpec := { name := "fnExactSameTiles", fn := fun _ => fun
  | [d1, d2] => { results := [.lit (.bool false)], args := [d1, d2] }
  | _ => none }
def FnExactSameTilesWrongFalsely : Prop := fnExactSameTilesRow.holds Try.pinned (OpenSpec.ofChange fnExactSameTilesWrong)

/-- 'laws.FnExactValidTiles': WHATEVER THE INPUT: true; the input reads as it did. -/
def fnExactValidTilesSpec : ChangeSpec := { name := "fnExactValidTiles", fn := fun _ => fun
  | [d] => { results := [.lit (.bool true)], args := [d] }
  | _ => none }
def fnExactValidTilesRow : OpenClaim := { program := "ytdgmndeindaobaa", sum := "d5a3877fa5e3ff4e449064ea234acca7253f4a093fe1918cd5aa2adca700a5aa", func := "loop.example/g00911/laws.FnExactValidTiles", spec := "fnExactValidTiles", apart := false }
def FnExactValidTilesSaid : Prop := fnExactValidTilesRow.holds Try.pinned (OpenSpec.ofChange fnExactValidTilesSpec)

/-- ITS FALSE NEIGHBOUR: 'it returns false'. Refute it at one input. -/
def fnExactValidTilesWrong : ChangeSpec := { name := "fnExactValidTiles", fn := fun _ => fun
  | [d] => { results := [.lit (.bool false)], args := [d] }
  | _ => none }
def FnExactValidTilesWrongFalsely : Prop := fnExactValidTilesRow.holds Try.pinned (OpenSpec.ofChange fnExactValidTilesWrong)

/-- 'laws.FnExactValueOf': WHATEVER THE INPUT: true; the input reads as it did. -/
def fnExactValueOfSpec : ChangeSpec := { name := "fnExactValueOf", fn := fun _ => fun
  | [d1, d2] => { results := [.lit (.bool true)], args := [d1, d2] }
  | _ => none }
def fnExactValueOfRow : OpenClaim := { program := "ytdgmndeindaobaa", sum := "d5a3877fa5e3ff4e449064ea234acca7253f4a093fe1918cd5aa2adca700a5aa", func := "loop.example/g00911/laws.FnExactValueOf", spec := "fnExactValueOf", inPlace := ["internal/bytealg.IndexByteString"], apart := false }
def FnExactValueOfSaid : Prop := fnExactValueOfRow.holds Try.pinned (OpenSpec.ofChange fnExactValueOfSpec)

/-- ITS FALSE NEIGHBOUR: 'it returns false'. Refute it at one input. -/
def fnExactValueOfWrong : ChangeSpec := { name := "fnExactValueOf", fn := fun _ => fun
  | [d1, d2] => { results := [.lit (.bool false)], args := [d1, d2] }
  | _ => none }
def FnExactValueOfWrongFalsely : Prop := fnExactValueOfRow.holds Try.pinned (OpenSpec.ofChange fnExactValueOfWrong)

/-- 'laws.FnExactCountOf': WHATEVER THE INPUT: true; the input reads as it did. -/
def fnExactCountOfSpec : ChangeSpec := { name := "fnExactCountOf", fn := fun _ => fun
  | [d1, d2] => { results := [.lit (.bool true)], args := [d1, d2] }
  | _ => none }
def fnExactCountOfRow : OpenClaim := { program := "ytdgmndeindaobaa", sum := "d5a3877fa5e3ff4e449064ea234acca7253f4a093fe1918cd5aa2adca700a5aa", func := "loop.example/g00911/laws.FnExactCountOf", spec := "fnExactCountOf", inPlace := ["internal/bytealg.IndexByteString"], apart := false }
def FnExactCountOfSaid : Prop := fnExactCountOfRow.holds Try.pinned (OpenSpec.ofChange fnExactCountOfSpec)

/-- ITS FALSE NEIGHBOUR: 'it returns false'. Refute it at one input. -/
def fnExactCountOfWrong : ChangeSpec := { name := "fnExactCountOf", fn := fun _ => fun
  | [d1, d2] => { results := [.lit (.bool false)], args := [d1, d2] }
  | _ => none }
def FnExactCountOfWrongFalsely : Prop := fnExactCountOfRow.holds Try.pinned (OpenSpec.ofChange fnExactCountOfWrong)

/-- 'laws.FnExactLettersValue': WHATEVER THE INPUT: true; the input reads as it did. -/
def fnExactLettersValueSpec : ChangeSpec := { name := "fnExactLettersValue", fn := fun _ => fun
  | [d1, d2] => { results := [.lit (.bool true)], args := [d1, d2] }
  | _ => none }
def fnExactLettersValueRow : OpenClaim := { program := "ytdgmndeindaobaa", sum := "d5a3877fa5e3ff4e449064ea234acca7253f4a093fe1918cd5aa2adca700a5aa", func := "loop.example/g00911/laws.FnExactLettersValue", spec := "fnExactLettersValue", inPlace := ["internal/bytealg.IndexByteString"], apart := false }
def FnExactLettersValueSaid : Prop := fnExactLettersValueRow.holds Try.pinned (OpenSpec.ofChange fnExactLettersValueSpec)

/-- ITS FALSE NEIGHBOUR: 'it returns false'. Refute it at one input. -/
def fnExactLettersValueWrong : ChangeSpec := { name := "fnExactLettersValue", fn := fun _ => fun
  | [d1, d2] => { results := [.lit (.bool false)], args := [d1, d2] }
  | _ => none }
def FnExactLettersValueWrongFalsely : Prop := fnExactLettersValueRow.holds Try.pinned (OpenSpec.ofChange fnExactLettersValueWrong)

/-- 'laws.FnExactAllTiles': WHATEVER THE INPUT: true; the input reads as it did. -/
def fnExactAllTilesSpec : ChangeSpec := { name := "fnExactAllTiles", fn := fun _ => fun
  | [d] => { results := [.lit (.bool true)], args := [d] }
  | _ => none }
def fnExactAllTilesRow : OpenClaim := { program := "ytdgmndeindaobaa", sum := "d5a3877fa5e3ff4e449064ea234acca7253f4a093fe1918cd5aa2adca700a5aa", func := "loop.example/g00911/laws.FnExactAllTiles", spec := "fnExactAllTiles", inPlace := ["internal/abi.NoEscape", "internal/bytealg.MakeNoZero"], apart := false }
def FnExactAllTilesSaid : Prop := fnExactAllTilesRow.holds Try.pinned (OpenSpec.ofChange fnExactAllTilesSpec)

/-- ITS FALSE NEIGHBOUR: 'it returns false'. Refute it at one input. -/
def fnExactAllTilesWrong : ChangeSpec := { name := "fnExactAllTiles", fn := fun _ => fun
  | [d] => { results := [.lit (.bool false)], args := [d] }
  | _ => none }
def FnExactAllTilesWrongFalsely : Prop := fnExactAllTilesRow.holds Try.pinned (OpenSpec.ofChange fnExactAllTilesWrong)

/-- 'laws.FnExactTotalValue': WHATEVER THE INPUT: true; the input reads as it did. -/
def fnExactTotalValueSpec : ChangeSpec := { name := "fnExactTotalValue", fn := fun _ => fun
  | [d] => { results := [.lit (.bool true)], args := [d] }
  | _ => none }
def fnExactTotalValueRow : OpenClaim := { program := "ytdgmndeindaobaa", sum := "d5a3877fa5e3ff4e449064ea234acca7253f4a093fe1918cd5aa2adca700a5aa", func := "loop.example/g00911/laws.FnExactTotalValue", spec := "fnExactTotalValue", inPlace := ["internal/abi.NoEscape", "internal/bytealg.MakeNoZero", "internal/bytealg.IndexByteString"], apart := false }
def FnExactTotalValueSaid : Prop := fnExactTotalValueRow.holds Try.pinned (OpenSpec.ofChange fnExactTotalValueSpec)

/-- ITS FALSE NEIGHBOUR: 'it returns false'. Refute it at one input. -/
def fnExactTotalValueWrong : ChangeSpec := { name := "fnExactTotalValue", fn := fun _ => fun
  | [d] => { results := [.lit (.bool false)], args := [d] }
  | _ => none }
def FnExactTotalValueWrongFalsely : Prop := fnExactTotalValueRow.holds Try.pinned (OpenSpec.ofChange fnExactTotalValueWrong)

/-- 'laws.FnExactCoversWord': WHATEVER THE INPUT: true; the input reads as it did. -/
def fnExactCoversWordSpec : ChangeSpec := { name := "fnExactCoversWord", fn := fun _ => fun
  | [d1, d2] => { results := [.lit (.bool true)], args := [d1, d2] }
  | _ => none }
def fnExactCoversWordRow : OpenClaim := { program := "ytdgmndeindaobaa", sum := "d5a3877fa5e3ff4e449064ea234acca7253f4a093fe1918cd5aa2adca700a5aa", func := "loop.example/g00911/laws.FnExactCoversWord", spec := "fnExactCoversWord", inPlace := ["internal/abi.NoEscape", "internal/bytealg.MakeNoZero"], apart := false }
def FnExactCoversWordSaid : Prop := fnExactCoversWordRow.holds Try.pinned (OpenSpec.ofChange fnExactCoversWordSpec)

/-- ITS FALSE NEIGHBOUR: 'it returns false'. Refute it at one input. -/
def fnExactCoversWordWrong : ChangeSpec := { name := "fnExactCoversWord", fn := fun _ => fun
  | [d1, d2] => { results := [.lit (.bool false)], args := [d1, d2] }
  | _ => none }
def FnExactCoversWordWrongFalsely : Prop := fnExactCoversWordRow.holds Try.pinned (OpenSpec.ofChange fnExactCoversWordWrong)

/-- 'laws.FnExactUnseenTiles': WHATEVER THE INPUT: true; the input reads as it did. -/
def fnExactUnseenTilesSpec : ChangeSpec := { name := "fnExactUnseenTiles", fn := fun _ => fun
  | [d1, d2] => { results := [.lit (.bool true)], args := [d1, d2] }
  | _ => none }
def fnExactUnseenTilesRow : OpenClaim := { program := "ytdgmndeindaobaa", sum := "d5a3877fa5e3ff4e449064ea234acca7253f4a093fe1918cd5aa2adca700a5aa", func := "loop.example/g00911/laws.FnExactUnseenTiles", spec := "fnExactUnseenTiles", inPlace := ["internal/abi.NoEscape", "internal/bytealg.MakeNoZero"], apart := false }
def FnExactUnseenTilesSaid : Prop := fnExactUnseenTilesRow.holds Try.pinned (OpenSpec.ofChange fnExactUnseenTilesSpec)

/-- ITS FALSE NEIGHBOUR: 'it returns false'. Refute it at one input. -/
def fnExactUnseenTilesWrong : ChangeSpec := { name := "fnExactUnseenTiles", fn := fun _ => fun
  | [d1, d2] => { results := [.lit (.bool false)], args := [d1, d2] }
  | _ => none }
def FnExactUnseenTilesWrongFalsely : Prop := fnExactUnseenTilesRow.holds Try.pinned (OpenSpec.ofChange fnExactUnseenTilesWrong)

/- THE SECOND FORM. 'bulk': how many values and letters a reading holds, each counted each time it is reached (what is shared counts as often as it is met; a slice's spare places count too). A statement '..UptoSaid' is the law's where the arguments, and the package variables that the reading takes, are together of bulk at most 1048576: NARROWER than '..Said'. Prove '..Said' where nothing that the law and all that it calls make is longer than what came in: it says more and counts as full. Else prove '..UptoSaid'. A law counts once. -/
mutual
def uptoBulk {H : Type} : DataW H → Nat
  | .lit (.string bytes) => bytes.length + 1
  | .lit _ => 1
  | .nil => 1
  | .ptr d => uptoBulk d + 1
  | .slice elems spare => uptoBulkAll elems + uptoBulkAll spare + 1
  | .agg parts => uptoBulkAll parts + 1
  | .iface _ d => uptoBulk d + 1
  | .map entries => uptoBulkEntries entries + 1
  | .held _ => 1
def uptoBulkAll {H : Type} : List (DataW H) → Nat
  | [] => 0
  | d :: r => uptoBulk d + uptoBulkAll r
def uptoBulkEntries {H : Type} : List (Lit × DataW H) → Nat
  | [] => 0
  | x :: r => uptoBulkEntry x + uptoBulkEntries r
def uptoBulkEntry {H : Type} : Lit × DataW H → Nat
  | (.string bytes, d) => bytes.length + uptoBulk d + 1
  | (_, d) => uptoBulk d + 1
 end
def uptoSmall : (H : Type) → List (DataW H) → Bool := fun _ ds => decide (uptoBulkAll ds ≤ 1048576)
def OpenSpec.upto (s : _root_.Go.ChangeSpec) : _root_.Go.OpenSpec := { _root_.Go.OpenSpec.ofChange s with cond := some uptoSmall }

/-- 'laws.FnExactSameTiles', WHERE WHAT IT READS IS OF BULK AT MOST 1048576: true; the input reads as it did. -/
def fnExactSameTilesUptoRow : OpenClaim := { program := "ytdgmndeindaobaa", sum := "d5a3877fa5e3ff4e449064ea234acca7253f4a093fe1918cd5aa2adca700a5aa", func := "loop.example/g00911/laws.FnExactSameTiles", spec := "fnExactSameTiles", apart := false, narrowed := true }
def FnExactSameTilesUptoSaid : Prop := fnExactSameTilesUptoRow.holds Try.pinned (OpenSpec.upto fnExactSameTilesSpec)

/-- 'laws.FnExactValidTiles', WHERE WHAT IT READS IS OF BULK AT MOST 1048576: true; the input reads as it did. -/
def fnExactValidTilesUptoRow : OpenClaim := { program := "ytdgmndeindaobaa", sum := "d5a3877fa5e3ff4e449064ea234acca7253f4a093fe1918cd5aa2adca700a5aa", func := "loop.example/g00911/laws.FnExactValidTiles", spec := "fnExactValidTiles", apart := false, narrowed := true }
def FnExactValidTilesUptoSaid : Prop := fnExactValidTilesUptoRow.holds Try.pinned (OpenSpec.upto fnExactValidTilesSpec)

/-- 'laws.FnExactValueOf', WHERE WHAT IT READS IS OF BULK AT MOST 1048576: true; the input reads as it did. -/
def fnExactValueOfUptoRow : OpenClaim := { program := "ytdgmndeindaobaa", sum := "d5a3877fa5e3ff4e449064ea234acca7253f4a093fe1918cd5aa2adca700a5aa", func := "loop.example/g00911/laws.FnExactValueOf", spec := "fnExactValueOf", inPlace := ["internal/bytealg.IndexByteString"], apart := false, narrowed := true }
def FnExactValueOfUptoSaid : Prop := fnExactValueOfUptoRow.holds Try.pinned (OpenSpec.upto fnExactValueOfSpec)

/-- 'laws.FnExactCountOf', WHERE WHAT IT READS IS OF BULK AT MOST 1048576: true; the input reads as it did. -/
def fnExactCountOfUptoRow : OpenClaim := { program := "ytdgmndeindaobaa", sum := "d5a3877fa5e3ff4e449064ea234acca7253f4a093fe1918cd5aa2adca700a5aa", func := "loop.example/g00911/laws.FnExactCountOf", spec := "fnExactCountOf", inPlace := ["internal/bytealg.IndexByteString"], apart := false, narrowed := true }
def FnExactCountOfUptoSaid : Prop := fnExactCountOfUptoRow.holds Try.pinned (OpenSpec.upto fnExactCountOfSpec)

/-- 'laws.FnExactLettersValue', WHERE WHAT IT READS IS OF BULK AT MOST 1048576: true; the input reads as it did. -/
def fnExactLettersValueUptoRow : OpenClaim := { program := "ytdgmndeindaobaa", sum := "d5a3877fa5e3ff4e449064ea234acca7253f4a093fe1918cd5aa2adca700a5aa", func := "loop.example/g00911/laws.FnExactLettersValue", spec := "fnExactLettersValue", inPlace := ["internal/bytealg.IndexByteString"], apart := false, narrowed := true }
def FnExactLettersValueUptoSaid : Prop := fnExactLettersValueUptoRow.holds Try.pinned (OpenSpec.upto fnExactLettersValueSpec)

/-- 'laws.FnExactAllTiles', WHERE WHAT IT READS IS OF BULK AT MOST 1048576: true; the input reads as it did. -/
def fnExactAllTilesUptoRow : OpenClaim := { program := "ytdgmndeindaobaa", sum := "d5a3877fa5e3ff4e449064ea234acca7253f4a093fe1918cd5aa2adca700a5aa", func := "loop.example/g00911/laws.FnExactAllTiles", spec := "fnExactAllTiles", inPlace := ["internal/abi.NoEscape", "internal/bytealg.MakeNoZero"], apart := false, narrowed := true }
def FnExactAllTilesUptoSaid : Prop := fnExactAllTilesUptoRow.holds Try.pinned (OpenSpec.upto fnExactAllTilesSpec)

/-- 'laws.FnExactTotalValue', WHERE WHAT IT READS IS OF BULK AT MOST 1048576: true; the input reads as it did. -/
def fnExactTotalValueUptoRow : OpenClaim := { program := "ytdgmndeindaobaa", sum := "d5a3877fa5e3ff4e449064ea234acca7253f4a093fe1918cd5aa2adca700a5aa", func := "loop.example/g00911/laws.FnExactTotalValue", spec := "fnExactTotalValue", inPlace := ["internal/abi.NoEscape", "internal/bytealg.MakeNoZero", "internal/bytealg.IndexByteString"], apart := false, narrowed := true }
def FnExactTotalValueUptoSaid : Prop := fnExactTotalValueUptoRow.holds Try.pinned (OpenSpec.upto fnExactTotalValueSpec)

/-- 'laws.FnExactCoversWord', WHERE WHAT IT READS IS OF BULK AT MOST 1048576: true; the input reads as it did. -/
def fnExactCoversWordUptoRow : OpenClaim := { program := "ytdgmndeindaobaa", sum := "d5a3877fa5e3ff4e449064ea234acca7253f4a093fe1918cd5aa2adca700a5aa", func := "loop.example/g00911/laws.FnExactCoversWord", spec := "fnExactCoversWord", inPlace := ["internal/abi.NoEscape", "internal/bytealg.MakeNoZero"], apart := false, narrowed := true }
def FnExactCoversWordUptoSaid : Prop := fnExactCoversWordUptoRow.holds Try.pinned (OpenSpec.upto fnExactCoversWordSpec)

/-- 'laws.FnExactUnseenTiles', WHERE WHAT IT READS IS OF BULK AT MOST 1048576: true; the input reads as it did. -/
def fnExactUnseenTilesUptoRow : OpenClaim := { program := "ytdgmndeindaobaa", sum := "d5a3877fa5e3ff4e449064ea234acca7253f4a093fe1918cd5aa2adca700a5aa", func := "loop.example/g00911/laws.FnExactUnseenTiles", spec := "fnExactUnseenTiles", inPlace := ["internal/abi.NoEscape", "internal/bytealg.MakeNoZero"], apart := false, narrowed := true }
def FnExactUnseenTilesUptoSaid : Prop := fnExactUnseenTilesUptoRow.holds Try.pinned (OpenSpec.upto fnExactUnseenTilesSpec)

end Rows
end Go.Proofs.Ytdgmndeindaobaa
