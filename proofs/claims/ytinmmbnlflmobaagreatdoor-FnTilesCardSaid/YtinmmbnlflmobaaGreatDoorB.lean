/- Words and small lemmas on worlds, slices and strings that the walks of this seat use. No condition. -/
import Derived.Test.YtinmmbnlflmobaaGreatDoorProg
import Derived.WalkKit
import Derived.WalkSpells
import Derived.WalkLawsBesides
import Derived.Lib.Hide
namespace Go.Proofs.YtinmmbnlflmobaaGreatDoor
open Go.RowKit

theorem ret_bool {a b : Bool} (h : a = b) : Ending.returned (.bool a) = .returned (.bool b) := by rw [h]
theorem ret_str {a b : ByteArray} (h : a = b) : Ending.returned (.string a) = .returned (.string b) := by rw [h]
theorem ret_int {k : IntKind} {a b : Int} (h : a = b) : Ending.returned (.int k a) = .returned (.int k b) := by rw [h]

/-- A slice value that reads as cells, wherever they lie. -/
def SlR (w : World) (sz : Nat) (v : Value) (n : Nat) (xs : List Value) : Prop :=
  xs.length = n * sz ∧ ∃ a c, v = .slice a n c ∧ n ≤ c ∧ c ≤ maxLen ∧ ∀ j u, xs[j]? = some u → ∃ b off, a = some ⟨b, off, none⟩ ∧ w.cell? ⟨b, off + j, none⟩ = some u

/-- A slice value whose cells lie in one block of number at least lo and below hi, none of them frozen. -/
def SlW (w : World) (lo hi : Nat) (e : TypeId) (sz : Nat) (v : Value) (n : Nat) (xs : List Value) : Prop :=
  xs.length = n * sz ∧ ∃ a c, v = .slice a n c ∧ n ≤ c ∧ c ≤ maxLen ∧
    (n = 0 ∨ ∃ g off cur, a = some ⟨g, off, none⟩ ∧ lo ≤ g ∧ g < hi ∧ w.heap[g]? = some (.cells cur e (0, 0)) ∧ off + n * sz ≤ cur.size ∧ (cur.toList.drop off).take (n * sz) = xs)

/-- Blocks outside of [lo, hi) that were there are as they were. -/
structure Kept (lo hi : Nat) (w w' : World) : Prop where
  os : w'.os = w.os
  tape : w'.tape = w.tape
  output : w'.output = w.output
  size : w.heap.size ≤ w'.heap.size
  block : ∀ k, k < w.heap.size → (k < lo ∨ hi ≤ k) → w'.heap[k]? = w.heap[k]?

theorem Kept.refl (lo hi : Nat) (w : World) : Kept lo hi w w := ⟨rfl, rfl, rfl, Nat.le_refl _, fun _ _ _ => rfl⟩
theorem Kept.trans {lo hi : Nat} {a b c : World} (h : Kept lo hi a b) (k : Kept lo hi b c) : Kept lo hi a c :=
  ⟨k.os.trans h.os, k.tape.trans h.tape, k.output.trans h.output, Nat.le_trans h.size k.size, fun i hi ho => (k.block i (Nat.lt_of_lt_of_le hi h.size) ho).trans (h.block i hi ho)⟩
theorem Kept.of_below {lo hi : Nat} {w w' : World} (h : Below w.heap.size w w') : Kept lo hi w w' := ⟨h.os, h.tape, h.output, h.size, fun k hk _ => h.block k hk⟩
theorem Kept.mono {lo hi lo' hi' : Nat} {w w' : World} (h : Kept lo hi w w') (h1 : lo' ≤ lo) (h2 : hi ≤ hi') : Kept lo' hi' w w' :=
  ⟨h.os, h.tape, h.output, h.size, fun k hk ho => h.block k hk (by omega)⟩
theorem Kept.below {lo hi B : Nat} {w w' : World} (h : Kept lo hi w w') (h1 : B ≤ lo) (h2 : B ≤ w.heap.size) : Below B w w' :=
  ⟨h.os, h.tape, h.output, h.size, fun k hk => h.block k (by omega) (by omega)⟩

theorem SlR.len {w sz v n xs} (h : SlR w sz v n xs) : xs.length = n * sz := h.1
theorem SlW.len {w lo hi e sz v n xs} (h : SlW w lo hi e sz v n xs) : xs.length = n * sz := h.1

theorem SlR.below {w w' : World} {sz v n xs} (h : SlR w sz v n xs) (hb : Below w.heap.size w w') : SlR w' sz v n xs := by
  obtain ⟨h1, a, c, rfl, h2, h3, h4⟩ := h
  refine ⟨h1, a, c, rfl, h2, h3, fun j u hj => ?_⟩
  obtain ⟨b, off, rfl, hc⟩ := h4 j u hj
  refine ⟨b, off, rfl, ?_⟩
  rw [hb.cell (p := ⟨b, off + j, none⟩) ?_]
  · exact hc
  · show b < w.heap.size
    by_cases hlt : b < w.heap.size
    · exact hlt
    · simp [World.cell?, Array.getElem?_eq_none (Nat.le_of_not_lt hlt)] at hc

theorem SlW.kept {w w' : World} {lo hi lo' hi' e sz v n xs} (h : SlW w lo hi e sz v n xs) (hb : Kept lo' hi' w w') (hd : hi ≤ lo' ∨ hi' ≤ lo) : SlW w' lo hi e sz v n xs := by
  obtain ⟨h1, a, c, rfl, h2, h3, h4⟩ := h
  refine ⟨h1, a, c, rfl, h2, h3, ?_⟩
  rcases h4 with h4 | ⟨g, off, cur, rfl, hg, hg2, hh, hs, ht⟩
  · exact .inl h4
  · exact .inr ⟨g, off, cur, rfl, hg, hg2, by rw [hb.block g (Array.getElem?_eq_some_iff.1 hh).1 (by omega)]; exact hh, hs, ht⟩
theorem SlW.below {w w' : World} {lo hi e sz v n xs} (h : SlW w lo hi e sz v n xs) (hb : Below w.heap.size w w') : SlW w' lo hi e sz v n xs :=
  h.kept (Kept.of_below (lo := hi) (hi := hi) hb) (.inl (Nat.le_refl _))

theorem SlW.mono {w : World} {lo hi lo' hi' e sz v n xs} (h : SlW w lo hi e sz v n xs) (hl : lo' ≤ lo) (hh : hi ≤ hi') : SlW w lo' hi' e sz v n xs := by
  obtain ⟨h1, a, c, rfl, h2, h3, h4⟩ := h
  refine ⟨h1, a, c, rfl, h2, h3, ?_⟩
  rcases h4 with h4 | ⟨g, off, cur, rfl, hg, hg2, hh, hs, ht⟩
  · exact .inl h4
  · exact .inr ⟨g, off, cur, rfl, by omega, by omega, hh, hs, ht⟩

theorem SlW.get {cur : Array Value} {off m j : Nat} {xs : List Value} (ht : (cur.toList.drop off).take m = xs) (hj : j < m) : cur[off + j]? = xs[j]? := by
  rw [← ht, List.getElem?_take, if_pos hj, List.getElem?_drop]; simp

theorem SlW.read {w : World} {lo hi e sz v n xs} (h : SlW w lo hi e sz v n xs) : SlR w sz v n xs := by
  obtain ⟨h1, a, c, rfl, h2, h3, h4⟩ := h
  refine ⟨h1, a, c, rfl, h2, h3, ?_⟩
  intro j u hj
  have hjl := (List.getElem?_eq_some_iff.1 hj).1
  rcases h4 with rfl | ⟨g, off, cur, rfl, hg, hg2, hh, hs, ht⟩
  · simp at h1; simp [h1] at hjl
  · refine ⟨g, off, rfl, ?_⟩
    have : cur[off + j]? = some u := by rw [SlW.get ht (by omega), hj]
    simp [World.cell?, hh, this]

/-- What the walk wants at a store into cell j: where it is, what is there, that it is not frozen, and what is owned behind the store. -/
theorem SlW.store {w : World} {lo hi e sz v n xs} (h : SlW w lo hi e sz v n xs) {j : Nat} (hj : j < n * sz) : ∃ a c, v = .slice a n c ∧ n ≤ c ∧ c ≤ maxLen ∧
    ∃ g off, a = some ⟨g, off, none⟩ ∧ lo ≤ g ∧ g < hi ∧ g < w.heap.size ∧ w.cell? ⟨g, off + j, none⟩ = xs[j]? ∧ w.frozen? ⟨g, off + j, none⟩ = false ∧
    ∀ u, SlW (w.setCell ⟨g, off + j, none⟩ u) lo hi e sz v n (xs.set j u) := by
  obtain ⟨h1, a, c, rfl, h2, h3, h4⟩ := h
  refine ⟨a, c, rfl, h2, h3, ?_⟩
  rcases h4 with rfl | ⟨g, off, cur, rfl, hg, hg2, hh, hs, ht⟩
  · simp at hj
  · refine ⟨g, off, rfl, hg, hg2, (Array.getElem?_eq_some_iff.1 hh).1, ?_, ?_, ?_⟩
    · simp [World.cell?, hh, SlW.get ht hj]
    · simp [World.frozen?, hh]
    · intro u
      refine ⟨by simp [h1], _, c, rfl, h2, h3, .inr ⟨g, off, cur.setIfInBounds (off + j) u, rfl, hg, hg2, ?_, by simpa using hs, ?_⟩⟩
      · simp [World.setCell, Array.getElem?_modify, hh]
      · apply List.ext_getElem?
        intro i
        have hx := h1
        rw [← ht]
        simp only [List.getElem?_take, List.getElem?_drop, List.getElem?_set, Array.getElem?_toList, Array.getElem?_setIfInBounds, List.length_take, List.length_drop, Array.length_toList]
        by_cases hij : i = j
        · subst hij
          rw [if_pos hj, if_pos rfl, if_pos rfl, if_pos (by omega), if_pos (by omega)]
        · rw [if_neg (show ¬ off + j = off + i by omega), if_neg (Ne.symm hij)]

theorem kept_setCell {w : World} {lo hi g o : Nat} (h1 : lo ≤ g) (h2 : g < hi) (u : Value) : Kept lo hi w (w.setCell ⟨g, o, none⟩ u) :=
  ⟨rfl, rfl, rfl, by simp [World.setCell], fun k _ hk => Below.heap_setCell _ _ _ _ (by show k ≠ g; omega)⟩

/-- A []string. -/
def Strs (w : World) (v : Value) (l : List ByteArray) : Prop := SlR w 1 v l.length (l.map Value.string) ∧ ∀ s ∈ l, s.size ≤ maxLen
def StrsW (w : World) (lo hi : Nat) (v : Value) (l : List ByteArray) : Prop := SlW w lo hi 9 1 v l.length (l.map Value.string) ∧ ∀ s ∈ l, s.size ≤ maxLen
theorem Strs.below {w w' : World} {v l} (h : Strs w v l) (hb : Below w.heap.size w w') : Strs w' v l := ⟨h.1.below hb, h.2⟩
theorem StrsW.below {w w' : World} {lo hi v l} (h : StrsW w lo hi v l) (hb : Below w.heap.size w w') : StrsW w' lo hi v l := ⟨h.1.below hb, h.2⟩
theorem StrsW.kept {w w' : World} {lo hi lo' hi' v l} (h : StrsW w lo hi v l) (hb : Kept lo' hi' w w') (hd : hi ≤ lo' ∨ hi' ≤ lo) : StrsW w' lo hi v l := ⟨h.1.kept hb hd, h.2⟩
theorem StrsW.read {w : World} {lo hi v l} (h : StrsW w lo hi v l) : Strs w v l := ⟨h.1.read, h.2⟩
theorem StrsW.mono {w : World} {lo hi lo' hi' v l} (h : StrsW w lo hi v l) (hl : lo' ≤ lo) (hh : hi ≤ hi') : StrsW w lo' hi' v l := ⟨h.1.mono hl hh, h.2⟩

/-- The value's shape and its cells. -/
theorem Strs.shape {w : World} {v l} (h : Strs w v l) : ∃ a c, v = .slice a l.length c ∧ l.length ≤ c ∧ c ≤ maxLen ∧
    ∀ j, (hj : j < l.length) → ∃ b off, a = some ⟨b, off, none⟩ ∧ w.cell? ⟨b, off + j, none⟩ = some (.string l[j]) ∧ l[j].size ≤ maxLen := by
  obtain ⟨⟨_, a, c, h1, h2, h3, h4⟩, h5⟩ := h
  refine ⟨a, c, h1, h2, h3, fun j hj => ?_⟩
  obtain ⟨b, off, e, hc⟩ := h4 j (.string l[j]) (by simp [hj])
  exact ⟨b, off, e, hc, h5 _ (List.getElem_mem _)⟩

theorem cell_lt {w : World} {b o : Nat} {v : Value} (h : w.cell? ⟨b, o, none⟩ = some v) : b < w.heap.size := by
  by_cases hlt : b < w.heap.size
  · exact hlt
  · simp [World.cell?, Array.getElem?_eq_none (Nat.le_of_not_lt hlt)] at h
theorem heap3_0 (w : World) (A B C : Obj) : (((w.alloc A).alloc B).alloc C).heap[w.heap.size]? = some A := by
  rw [Below.heap_alloc _ _ _ (by simp; omega)]; exact heap_alloc2_old w A B
theorem heap3_1 (w : World) (A B C : Obj) : (((w.alloc A).alloc B).alloc C).heap[w.heap.size + 1]? = some B := by
  rw [Below.heap_alloc _ _ _ (by simp)]; exact heap_alloc2_new w A B
theorem heap3_2 (w : World) (A B C : Obj) : (((w.alloc A).alloc B).alloc C).heap[w.heap.size + 1 + 1]? = some C := by
  have h := heap_alloc2_new (w.alloc A) B C
  simpa using h
theorem ba_append (a b : List UInt8) : (⟨a.toArray⟩ : ByteArray) ++ ⟨b.toArray⟩ = ⟨(a ++ b).toArray⟩ := by
  apply ByteArray.ext; simp
theorem below_drewN {B : Nat} {a w : World} (h : Below B a w) (n : Nat) : Below B a (w.drewN n) := ⟨h.os, h.tape, h.output, h.size, h.block⟩
end Go.Proofs.YtinmmbnlflmobaaGreatDoor
