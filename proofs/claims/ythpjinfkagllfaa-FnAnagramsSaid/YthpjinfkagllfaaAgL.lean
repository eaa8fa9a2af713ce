/- AnagramsOf, plainly; slices of words that lie in a map. No program is walked. -/
import Derived.Test.YthpjinfkagllfaaCl
import Derived.Test.YthpjinfkagllfaaEq
import Derived.Test.YthpjinfkagllfaaLd
import Derived.Test.YthpjinfkagllfaaAt
import Derived.Maps.OwnSet
namespace Go.Proofs.Ythpjinfkagllfaa
open Go.RowKit
/-- The sorted tiles of a word. -/
def sortB (s : ByteArray) : ByteArray := ⟨(pileOf (cntOf s.data.toList)).toArray⟩
def agP (a s : ByteArray) : Bool := decide (sortB s = sortB a)
def agV (l : List ByteArray) (a : ByteArray) : List ByteArray := if lexB l && isWord a then l.filter (agP a) else []
def agE (l : List ByteArray) (a : ByteArray) : Int := if lexB l then (if isWord a then 0 else 7) else 1
theorem agV_len (l : List ByteArray) (a : ByteArray) (h : l.length ≤ 1048576) : (agV l a).length ≤ 1048576 := by
  unfold agV
  split
  · have := List.length_filter_le (agP a) l; omega
  · simp
/-- A value that is its own datum. -/
def selfR (v : Value) : Option (DataW Value × List MemPlace) := some (.held v, [])
/-- The words so far by their sorted tiles: what a map of slices holds. -/
structure Grp (w : World) (B : Nat) (D : DataW Value) (G : ByteArray → Value) (l : List ByteArray) : Prop where
  get : ∀ s : ByteArray, D.atKey (.string s.data.toList) (.held (.slice none 0 0)) = .held (G s)
  own : ∀ s, OwnS w B (G s) (l.filter fun x => decide (sortB x = s))
  apart : ∀ s t, s ≠ t → ∀ k, (G s).ownBlock = some k → (G t).ownBlock ≠ some k
theorem Grp.start (w : World) (B : Nat) : Grp w B (.map []) (fun _ => .slice none 0 0) [] := by
  refine ⟨fun s => rfl, fun s => ?_, fun s t _ k h => by simp [Value.ownBlock] at h⟩
  exact World.ownsRow_nil _ _ _ _
theorem Grp.below {w w' : World} {B D G l} (h : Grp w B D G l) (hb : Below w.heap.size w w') : Grp w' B D G l :=
  ⟨h.get, fun s => (h.own s).below hb, h.apart⟩
theorem Grp.len {w : World} {B D G l} (_h : Grp w B D G l) (s : ByteArray) : (l.filter fun x => decide (sortB x = s)).length ≤ l.length := List.length_filter_le _ _
/-- A word is appended to its group, and the group stored at its key. -/
theorem Grp.put {w w' w'' : World} {B b : Nat} {D : DataW Value} {G : ByteArray → Value} {l : List ByteArray} {x key : ByteArray} {g n cap : Nat} (h : Grp w B D G l) (hk : sortB x = key) (hD : Go.Maps.IsMap D)
    (hb : b < B) (hown : OwnS w' B (.slice (some ⟨g, 0, none⟩) n cap) ((l.filter fun x => decide (sortB x = key)) ++ [x])) (hg : w.grownBy w' (G key).ownBlock) (hg2 : w'.grownBy w'' (some b))
    (hl : some g = (G key).ownBlock ∨ w.heap.size ≤ g) :
    Grp w'' B (D.put (.string key.data.toList) (.held (.slice (some ⟨g, 0, none⟩) n cap))) (fun s => if s = key then .slice (some ⟨g, 0, none⟩) n cap else G s) (l ++ [x]) := by
  have low : ∀ s k, (G s).ownBlock = some k → B ≤ k ∧ k < w.heap.size := fun s k hs => World.ownsRow.lt (h.own s) k hs
  have hgB : B ≤ g := (World.ownsRow.lt hown g rfl).1
  refine ⟨fun s => ?_, fun s => ?_, fun s t hst k hs => ?_⟩
  · by_cases e : s = key
    · subst e
      rw [if_pos rfl, Go.Maps.atKey_put_same hD (by trivial)]
    · rw [if_neg e, Go.Maps.atKey_put_other (fun e2 => e (by injection e2 with e2; exact ByteArray.ext (Array.toList_inj.1 e2))), h.get s]
  · by_cases e : s = key
    · subst e
      simp only [if_true]
      have : (l ++ [x]).filter (fun y => decide (sortB y = s)) = (l.filter fun y => decide (sortB y = s)) ++ [x] := by
        rw [List.filter_append, List.filter_cons, decide_eq_true hk]; simp
      rw [this]
      exact World.ownsRow.kept hown hg2 (by simp [Value.ownBlock]; omega)
    · simp only [e, if_false]
      have : (l ++ [x]).filter (fun y => decide (sortB y = s)) = l.filter fun y => decide (sortB y = s) := by
        rw [List.filter_append, List.filter_cons, decide_eq_false (fun e2 => e (e2.symm.trans hk))]; simp
      rw [this]
      refine World.ownsRow.kept (World.ownsRow.kept (h.own s) hg ?_) hg2 ?_
      · cases ho : (G s).ownBlock with
        | none => exact .inl rfl
        | some k => exact .inr fun he => h.apart s key e k ho he.symm
      · cases ho : (G s).ownBlock with
        | none => exact .inl rfl
        | some k => exact .inr fun he => by have := low s k ho; injection he with he; omega
  · have other : ∀ r, r ≠ key → ∀ m, (G r).ownBlock = some m → m ≠ g := fun r hr m hm e => by
      subst e
      rcases hl with hl | hl
      · exact h.apart key r (fun e => hr e.symm) m hl.symm hm
      · have := low r m hm; omega
    by_cases e : s = key
    · rw [if_pos e] at hs
      have hs : g = k := by simpa [Value.ownBlock] using hs
      subst hs
      rw [if_neg (fun e2 => hst (e.trans e2.symm))]
      exact fun hm => other t (fun e2 => hst (e.trans e2.symm)) g hm rfl
    · rw [if_neg e] at hs
      by_cases e2 : t = key
      · rw [if_pos e2]
        intro hm
        have hm : g = k := by simpa [Value.ownBlock] using hm
        exact other s e k hs hm.symm
      · rw [if_neg e2]
        exact h.apart s t hst k hs
end Go.Proofs.Ythpjinfkagllfaa
