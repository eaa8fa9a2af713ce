/- A row of bytes made of a string. No condition. -/
import Derived.Test.YthpjinfkagllfaaA
import Derived.Lib.ConvBytes
import Derived.Lib.IndexBytes
import Derived.Laws.IdiomStrings
namespace Go.Proofs.Ythpjinfkagllfaa
open Go.RowKit
/-- A row of bytes made by '[]byte(s)'. -/
def RowB (w : World) (g : Nat) (l : List UInt8) : Prop := ∃ cur : Array Value, w.heap[g]? = some (.cells cur 5 (cur.size, cur.size + 1)) ∧ ∀ (j : Nat) (x : UInt8), l[j]? = some x → cur[j]? = some (Value.int .u8 x.toNat)
theorem RowB.at {w : World} {g : Nat} {l : List UInt8} (h : RowB w g l) (j : Nat) (x : UInt8) (hx : l[j]? = some x) : w.cell? ⟨g, j, none⟩ = some (.int .u8 x.toNat) := by
  obtain ⟨cur, h1, h2⟩ := h
  simp [World.cell?, h1, h2 j x hx]
theorem RowB.free {w : World} {g : Nat} {l : List UInt8} (h : RowB w g l) (j : Nat) (hj : j < l.length) : w.frozen? ⟨g, j, none⟩ = false := by
  obtain ⟨cur, h1, h2⟩ := h
  have := (Array.getElem?_eq_some_iff.1 (h2 j _ (List.getElem?_eq_getElem hj))).1
  simp [World.frozen?, h1]; omega
theorem RowB.set {w : World} {g : Nat} {l : List UInt8} (h : RowB w g l) (j : Nat) (x : UInt8) : RowB (w.setCell ⟨g, j, none⟩ (.int .u8 x.toNat)) g (l.set j x) := by
  obtain ⟨cur, h1, h2⟩ := h
  refine ⟨cur.setIfInBounds j (.int .u8 x.toNat), ?_, fun i y hy => ?_⟩
  · simp [World.setCell, Array.getElem?_modify, h1]
  · rw [List.getElem?_set] at hy
    rw [Array.getElem?_setIfInBounds]
    by_cases hij : j = i
    · subst hij
      rw [if_pos rfl] at hy
      split at hy
      · rename_i hlt
        cases hy
        have := (Array.getElem?_eq_some_iff.1 (h2 j _ (List.getElem?_eq_getElem hlt))).1
        simp [this]
      · cases hy
    · rw [if_neg hij] at hy ⊢
      exact h2 i y hy
theorem RowB.drewN {w : World} {g : Nat} {l : List UInt8} (h : RowB w g l) (m : Nat) : RowB (w.drewN m) g l := h
theorem RowB.conv {w : World} {g cap : Nat} {l : List UInt8} (h : RowB w g l) : (convert 30 9 (.slice (some ⟨g, 0, none⟩) l.length cap)).run Try.prog w = .ok (.string ⟨l.toArray⟩) w := by
  refine run_convert_bytes_back w _ _ 5 ⟨g, 0, none⟩ cap l Try.underlying30 Try.underlying5 Try.underlying9 ?_
  intro j hj
  have := h.at j _ (List.getElem?_eq_getElem hj)
  have e : (⟨g, 0, none⟩ : Addr).add j = ⟨g, j, none⟩ := by unfold Addr.add; split <;> simp_all
  rw [e]; exact this
theorem RowB.fresh (w : World) (s : ByteArray) (cap : Nat) : ∃ W0, W0 = (w.alloc (.cells (bytesRow s cap) 5 ((bytesRow s cap).size, (bytesRow s cap).size + 1))).drew ∧ Below w.heap.size w W0 ∧ RowB W0 w.heap.size s.data.toList :=
  ⟨_, rfl, ((Below.refl _ _).alloc (Nat.le_refl _) _).drew, bytesRow s cap, by
    show (w.heap.push _)[w.heap.size]? = _
    simp, fun j x hx => by
    have hj : j < s.size := by have := (List.getElem?_eq_some_iff.1 hx).1; simpa using this
    have := bytesRow_at s cap j hj
    rw [this]
    have e : s.data.toList[j]? = some s[j] := Lib.data_getElem? s j hj
    rw [e] at hx
    cases hx; rfl⟩

theorem RowB.lt {w : World} {g : Nat} {l : List UInt8} (h : RowB w g l) : g < w.heap.size := by obtain ⟨cur, h1, -⟩ := h; exact (Array.getElem?_eq_some_iff.1 h1).1
theorem RowB.of_block {w w' : World} {g : Nat} {l : List UInt8} (h : RowB w g l) (e : w'.heap[g]? = w.heap[g]?) : RowB w' g l := by obtain ⟨cur, h1, h2⟩ := h; exact ⟨cur, e.trans h1, h2⟩
theorem RowB.below {w w' : World} {g : Nat} {l : List UInt8} (h : RowB w g l) (hb : Below w.heap.size w w') : RowB w' g l := h.of_block (hb.block g h.lt)
end Go.Proofs.Ythpjinfkagllfaa
