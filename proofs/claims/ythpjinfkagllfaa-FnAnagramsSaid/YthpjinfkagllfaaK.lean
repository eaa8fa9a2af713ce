/- Contracts of CommonTiles in the program and in the reference. Condition: strings of at most 2^20 bytes. -/
import Derived.Test.YthpjinfkagllfaaR
namespace Go.Proofs.Ythpjinfkagllfaa
open Go.RowKit

/-- What CommonTiles comes to. -/
def commV (a b : ByteArray) : ByteArray × Int :=
  if isPile a && isPile b then (⟨(commR a.data.toList b.data.toList).toArray⟩, 0) else (⟨#[]⟩, 1)
/-- The smaller counts, up to a place. -/
def minTo (f g : Nat → Int) (k : Nat) : Nat → Int := fun j => if j < k then min (f j) (g j) else f j
theorem minTo_succ (f g : Nat → Int) (k : Nat) : upd (minTo f g k) k (min (f k) (g k)) = minTo f g (k + 1) := by
  funext j
  unfold upd minTo
  by_cases h : j = k
  · subst h; simp
  · rw [if_neg h]
    by_cases h2 : j < k
    · rw [if_pos h2, if_pos (by omega)]
    · rw [if_neg h2, if_neg (by omega)]
theorem minTo_zero (f g : Nat → Int) : minTo f g 0 = f := by funext j; simp [minTo]
theorem minTo_all (f g : Nat → Int) : cs (minTo f g 27) = cs (minC f g) := cs_congr fun k hk => by simp [minTo, minC, hk]

end Go.Proofs.Ythpjinfkagllfaa
