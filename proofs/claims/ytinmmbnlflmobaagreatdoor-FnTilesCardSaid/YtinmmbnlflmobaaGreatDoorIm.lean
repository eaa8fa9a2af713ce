/- Marks of int slices and of tile sets. Condition: the slices lie in blocks of their own. -/
import Derived.Test.YtinmmbnlflmobaaGreatDoorI
import Derived.Test.YtinmmbnlflmobaaGreatDoorEq
namespace Go.Proofs.YtinmmbnlflmobaaGreatDoor
open Go.RowKit
/-- n marks from k on, as numbers. -/
def imarks (k : Int) (n : Nat) : List Int := (List.range n).map fun (i : Nat) => k + (i : Int)
theorem imarks_length (k : Int) (n : Nat) : (imarks k n).length = n := by simp [imarks]
theorem imarks_get (k : Int) (n j : Nat) (h : j < (imarks k n).length) : (imarks k n)[j] = k + (j : Int) := by simp [imarks]
def imarked (k : Int) (l : List Int) (j : Nat) : List Int := imarks k j ++ l.drop j
theorem imarked_zero (k : Int) (l : List Int) : imarked k l 0 = l := by simp [imarked, imarks]
theorem imarked_all (k : Int) (l : List Int) : imarked k l l.length = imarks k l.length := by simp [imarked]
theorem imarked_length (k : Int) (l : List Int) (j : Nat) (_h : j ≤ l.length) : (imarked k l j).length = l.length := by simp [imarked, imarks]; omega
theorem imarked_get (k : Int) (l : List Int) (j : Nat) (h : j < l.length) : (imarked k l j)[j]? = some l[j] := by
  unfold imarked
  rw [List.getElem?_append_right (by simp [imarks]), List.getElem?_drop]; simp [imarks, h]
theorem imarked_succ (k : Int) (l : List Int) (j : Nat) (h : j < l.length) : (imarked k l j).set j (k + j) = imarked k l (j + 1) := by
  unfold imarked
  rw [List.set_append_right _ _ (by simp [imarks])]
  simp only [imarks_length, Nat.sub_self]
  rw [List.drop_eq_getElem_cons h, List.set_cons_zero]
  simp [imarks, List.range_succ]

/-- A tile set of a call's own, whose two slices share no block. -/
def TilX (w : World) (lo hi : Nat) (v : Value) (x : TileD) : Prop := ∃ s1 s2 g1 g2, v = .agg #[.string x.letters, s1, s2, .int .i64 x.blanks] ∧ x.letters.size ≤ maxLen ∧ IntsW w g1 (g1 + 1) s1 x.values ∧ IntsW w g2 (g2 + 1) s2 x.counts ∧ I64 x.blanks ∧
  g1 ≠ g2 ∧ lo ≤ g1 ∧ g1 < hi ∧ lo ≤ g2 ∧ g2 < hi
theorem TilX.below {w w' : World} {lo hi v x} (h : TilX w lo hi v x) (hb : Below w.heap.size w w') : TilX w' lo hi v x := by
  obtain ⟨s1, s2, g1, g2, e, h0, h1, h2, h3, h4⟩ := h; exact ⟨s1, s2, g1, g2, e, h0, h1.below hb, h2.below hb, h3, h4⟩
theorem TilX.kept {w w' : World} {lo hi lo' hi' v x} (h : TilX w lo hi v x) (hb : Kept lo' hi' w w') (hd : hi ≤ lo' ∨ hi' ≤ lo) : TilX w' lo hi v x := by
  obtain ⟨s1, s2, g1, g2, e, h0, h1, h2, h3, h4, h5⟩ := h; exact ⟨s1, s2, g1, g2, e, h0, h1.kept hb (by omega), h2.kept hb (by omega), h3, h4, h5⟩
theorem TilX.read {w : World} {lo hi v x} (h : TilX w lo hi v x) : TilR w v x := by
  obtain ⟨s1, s2, g1, g2, e, h0, h1, h2, h3, h4⟩ := h; exact ⟨s1, s2, e, h0, h1.read, h2.read, h3⟩
theorem TilX.mono {w : World} {lo hi lo' hi' v x} (h : TilX w lo hi v x) (hl : lo' ≤ lo) (hh : hi ≤ hi') : TilX w lo' hi' v x := by
  obtain ⟨s1, s2, g1, g2, e, h0, h1, h2, h3, h4⟩ := h; exact ⟨s1, s2, g1, g2, e, h0, h1, h2, h3, by omega⟩
theorem TilX.shape {w : World} {lo hi v x} (h : TilX w lo hi v x) : ∃ a c b d, v = .agg #[.string x.letters, .slice a x.values.length c, .slice b x.counts.length d, .int .i64 x.blanks] := h.read.shape
/-- The marked tile set. -/
def marksT (k : Int) (x : TileD) : TileD := { x with values := imarks k x.values.length, counts := imarks (k + x.values.length) x.counts.length }
def cntT (x : TileD) : Nat := x.values.length + x.counts.length
end Go.Proofs.YtinmmbnlflmobaaGreatDoor
