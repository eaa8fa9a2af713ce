/- Derivations as arguments: how one is opened; szDerivation, toDerivation, eqDerivation. No condition but the readings. -/
import Derived.Test.YtgefgdkejenhnaaGreatDoorWoL
namespace Go.Proofs.YtgefgdkejenhnaaGreatDoor
open Go.ChangeShapes Go.WideShapes Go.ChangeAt Go.RowKit
def DerR (w : World) (v : Value) (x : DerD) : Prop := ∃ u, v = .agg #[.string x.stem, u] ∧ x.stem.size ≤ maxLen ∧ Strs w u x.affixes
def DerW (w : World) (lo hi : Nat) (v : Value) (x : DerD) : Prop := ∃ u, v = .agg #[.string x.stem, u] ∧ x.stem.size ≤ maxLen ∧ StrsW w lo hi u x.affixes
theorem DerR.below {w w' : World} {v x} (h : DerR w v x) (hb : Below w.heap.size w w') : DerR w' v x := by obtain ⟨s, e, h1, h2⟩ := h; exact ⟨s, e, h1, h2.below hb⟩
theorem DerW.below {w w' : World} {lo hi v x} (h : DerW w lo hi v x) (hb : Below w.heap.size w w') : DerW w' lo hi v x := by obtain ⟨s, e, h1, h2⟩ := h; exact ⟨s, e, h1, h2.below hb⟩
theorem DerW.kept {w w' : World} {lo hi lo' hi' v x} (h : DerW w lo hi v x) (hb : Kept lo' hi' w w') (hd : hi ≤ lo' ∨ hi' ≤ lo) : DerW w' lo hi v x := by obtain ⟨s, e, h1, h2⟩ := h; exact ⟨s, e, h1, h2.kept hb hd⟩
theorem DerW.read {w : World} {lo hi v x} (h : DerW w lo hi v x) : DerR w v x := by obtain ⟨s, e, h1, h2⟩ := h; exact ⟨s, e, h1, h2.read⟩
theorem DerW.mono {w : World} {lo hi lo' hi' v x} (h : DerW w lo hi v x) (hl : lo' ≤ lo) (hh : hi ≤ hi') : DerW w lo' hi' v x := by obtain ⟨s, e, h1, h2⟩ := h; exact ⟨s, e, h1, h2.mono hl hh⟩
theorem DerR.shape {w : World} {v x} (h : DerR w v x) : ∃ a c, v = .agg #[.string x.stem, .slice a x.affixes.length c] := by
  obtain ⟨s, rfl, -, h2⟩ := h
  obtain ⟨a, c, rfl, _⟩ := h2.shape
  exact ⟨a, c, rfl⟩
theorem DerW.shape {w : World} {lo hi v x} (h : DerW w lo hi v x) : ∃ a c, v = .agg #[.string x.stem, .slice a x.affixes.length c] := h.read.shape
def szDerR (x : DerD) : Nat := x.stem.size + szL x.affixes
structure DerLim (x : DerD) : Prop where
  w : x.stem.size ≤ 1048576
  u : x.affixes.length ≤ 1048576
theorem szNDerivation {x : DerD} {n : Nat} (h : szDerR x ≤ n) (hn : n ≤ 1048576) : DerLim x := by unfold szDerR szL at h; exact ⟨by omega, by omega⟩
theorem infoDer : (Tryz.prog.info? 56).map (·.size) = some 2 := by kernel_rfl
theorem derD_eq (x y : DerD) : decide (x = y) = (decide (x.stem = y.stem) && decide (x.affixes = y.affixes)) := by
  cases x; cases y; simp

end Go.Proofs.YtgefgdkejenhnaaGreatDoor
