/- What the laws on tile sets call: l00Same, l02Same, SameTiles, of both sides. No condition but the readings. -/
import Derived.Test.YtjgpcmjnmddbkaaDoorI
import Derived.Test.YtjgpcmjnmddbkaaDoorW
import Derived.Test.YtjgpcmjnmddbkaaDoorSh
namespace Go.Proofs.YtjgpcmjnmddbkaaDoor
open Go.RowKit
theorem drewN_two (w : World) (a b : Nat) : (w.drewN a).drewN b = w.drewN (a + b) := World.drewN_drewN w a b
theorem quiet_drew {P : Program} {f : FuncId} {args : Array Value} {w : World} {n : Nat} {v : Value}
    (h : Calls P f args (w.drewN n) fun e w' => e = .returned v ∧ ∃ q, w' = (w.drewN n).drewN q) : Calls P f args (w.drewN n) fun e w'' => e = .returned v ∧ ∃ m, w'' = w.drewN m :=
  h.mono fun _ _ ⟨he, q, hm⟩ => ⟨he, n + q, by rw [hm, drewN_two]⟩
theorem tileD_eq (x y : TileD) : decide (x = y) = (decide (x.letters = y.letters) && decide (x.values = y.values) && decide (x.counts = y.counts) && decide (x.blanks = y.blanks)) := by
  cases x; cases y; simp [Bool.and_assoc]
end Go.Proofs.YtjgpcmjnmddbkaaDoor
