/- (*strings.Builder).WriteString once more, with what it leaves of a block that is younger than the builder's row. Condition: Go's own bound on the length. -/
import Derived.Test.YtgefgdkejenhnaaDoorSb
import Derived.Test.YtgefgdkejenhnaaDoorA
namespace Go.Proofs.YtgefgdkejenhnaaDoor
open Go.RowKit
theorem set_heapB {w : World} {g i : Nat} {cs : Array Value} {t : TypeId} {fr : Nat × Nat} (y : Value) (h : w.heap[g]? = some (.cells cs t fr)) : (w.setCell ⟨g, i, none⟩ y).heap[g]? = some (.cells (cs.setIfInBounds i y) t fr) := by
  simp [World.setCell, Array.getElem?_modify, h]
/-- What copyCheck leaves. -/
structure Chk (B b : Nat) (bs : List Value) (w w' : World) : Prop where
  below : Below B w w'
  at_ : Lib.BuilderAt 91 5 B b (.pointer (some ⟨b, 0, none⟩)) bs w'
  row : w'.cell? ⟨b, 1, none⟩ = w.cell? ⟨b, 1, none⟩
  block : ∀ k, k ≠ b → w'.heap[k]? = w.heap[k]?
theorem copyCheck_fr (B b : Nat) (bs : List Value) (w : World) (h : Lib.IsBuilder 91 5 B b bs w) :
    Calls Tryd.prog 91 #[.pointer (some ⟨b, 0, none⟩)] w fun e w' => e = .returned (.tuple #[]) ∧ Chk B b bs w w' := by
  rcases h with h | h
  · refine (copyCheck_fresh b w h.cell0 h.shape h.frozen0).mono ?_
    rintro e w' ⟨rfl, rfl⟩
    refine ⟨rfl, (Below.refl B w).setCell (p := ⟨b, 0, none⟩) h.1 _, h.used _, ?_, fun k hk => Below.heap_setCell _ _ _ _ (by show k ≠ b; exact hk)⟩
    obtain ⟨_, v, hbk, -⟩ := h
    have h2 := set_heapB (i := 0) (.pointer (some ⟨b, 0, none⟩)) hbk
    simp [World.cell?, h2, hbk]
  · refine (copyCheck_used b w h.cell0).mono ?_
    rintro e w' ⟨rfl, rfl⟩
    exact ⟨rfl, Below.refl B _, h, rfl, fun _ _ => rfl⟩
set_option maxHeartbeats 2000000 in
set_option maxRecDepth 100000 in
theorem writeString_fr (B b : Nat) (bs : List Value) (s : ByteArray) (w : World) (h : Lib.IsBuilder 91 5 B b bs w) (hlen : bs.length + s.size ≤ 140737488355328) (hBw : B ≤ w.heap.size) (K : Nat) (hK : K < w.heap.size) (hKb : K ≠ b) (hKr : ∀ v, w.cell? ⟨b, 1, none⟩ = some v → v.ownBlock ≠ some K) :
    Calls Tryd.prog 57 #[.pointer (some ⟨b, 0, none⟩), .string s] w fun e w' => e = .returned (.tuple #[.int .i64 s.size, .nilIface]) ∧ (Lib.BuilderAt 91 5 B b (.pointer (some ⟨b, 0, none⟩)) (bs ++ Lib.strCells s) w' ∧ Below B w w') ∧ w'.heap[K]? = w.heap[K]? := by
  obtain ⟨i0, hi, hz0, hz1, hz2⟩ := info_parts infoByte
  go_enter Tryd.func57, Tryd.ntmps57
  go_wp2_with (go_at_call 91; refine (copyCheck_fr B b bs _ h).mono ?_)
  rintro e w1 ⟨rfl, hchk⟩
  obtain ⟨hb1, ⟨hB, v, hbk, hown, hne⟩, hrow, hblk⟩ := hchk
  have c0 : w1.cell? ⟨b, 0, none⟩ = some (.pointer (some ⟨b, 0, none⟩)) := by rw [Lib.cell_of_heap hbk]; rfl
  have c1 : w1.cell? ⟨b, 1, none⟩ = some v := by rw [Lib.cell_of_heap hbk]; rfl
  have HKv := Lib.hid (hKr v (by rw [← hrow]; exact c1))
  have Hblk := Lib.hid hblk
  clear hrow hblk hKr
  go_wp2_with (at_builtin; refine Lib.wpList_append_own_string _ rfl _ _ 89 9 rfl B 5 i0 Tryd.underlying89 Tryd.underlying9 hi hz0 hz1 hz2 _ _ _ rfl hown s rfl ?c3 ?c4 ?c5 ?_)
  case c3 => unfold maxLen; omega
  case c4 => omega
  case c5 => have := hb1.size; omega
  intro v' w2 hown' hgrow _
  have hlt : b < w1.heap.size := by
    rcases Nat.lt_or_ge b w1.heap.size with h' | h'
    · exact h'
    · simp [Array.getElem?_eq_none h'] at hbk
  have hb2 : w2.heap[b]? = some (.cells #[.pointer (some ⟨b, 0, none⟩), v] 91 (0, 0)) := by
    rw [hgrow.block b hlt (fun e => hne e.symm)]
    exact hbk
  have d0 : w2.cell? ⟨b, 0, none⟩ = some (.pointer (some ⟨b, 0, none⟩)) := by rw [Lib.cell_of_heap hb2]; rfl
  have d1 : w2.cell? ⟨b, 1, none⟩ = some v := by rw [Lib.cell_of_heap hb2]; rfl
  have f1 : w2.frozen? ⟨b, 1, none⟩ = false := Lib.frozen_of_heap hb2 1
  have HKn : Hid (w2.heap[K]? = w.heap[K]?) := Lib.hid ((hgrow.block K (Nat.lt_of_lt_of_le hK hb1.size) (fun e => HKv.out e.symm)).trans (Hblk.out K hKb))
  obtain ⟨ao, n', cap, rfl⟩ : ∃ ao n' cap, v' = .slice ao n' cap := by
    rcases hown'.2 with ⟨hv, _⟩ | ⟨g, cap, cur, hv, _⟩
    · exact ⟨_, _, _, hv⟩
    · exact ⟨_, _, _, hv⟩
  go_wp2
  go_ret2
  refine ⟨rfl, ⟨?_, ?_⟩, (Below.heap_setCell _ _ _ _ (by show K ≠ b; exact hKb)).trans HKn.out⟩
  · exact Lib.BuilderAt.put (T := 91) (e := 5) hB hb2 (bs' := bs ++ Lib.strCells s) (by simpa [Lib.strCells_length] using hown') (by decide)
  · exact (hb1.grown hgrow (by have := hb1.size; omega) (fun k hk => (hown.lt k hk).1)).setCell (p := ⟨b, 1, none⟩) hB _
/-- A string is written; the block that was made behind w0, in which the builder stood already, stays. -/
theorem writeString_at (B b : Nat) (l : List UInt8) (s : ByteArray) (w0 w : World) (h : IsB B b l w0) (hb : Below w0.heap.size w0 w) (h' : IsB B b l w) (hK : w0.heap.size < w.heap.size) (hlen : l.length + s.size ≤ 140737488355328) (hBw : B ≤ w.heap.size) :
    Calls Tryd.prog 57 #[.pointer (some ⟨b, 0, none⟩), .string s] w fun e w' => e = .returned (.tuple #[.int .i64 s.size, .nilIface]) ∧ IsB B b (l ++ s.data.toList) w' ∧ Below B w w' ∧ w'.heap[w0.heap.size]? = w.heap[w0.heap.size]? := by
  obtain ⟨p, hB, v, hbk, hown, hne⟩ : ∃ p, Lib.BuilderAt 91 5 B b p (Lib.byteCells l) w0 := by
    rcases h with h | h <;> exact ⟨_, h⟩
  have hlt : b < w0.heap.size := (Array.getElem?_eq_some_iff.1 hbk).1
  refine (writeString_fr B b _ s w h' (by rw [Lib.byteCells_length]; exact hlen) hBw w0.heap.size hK (by omega) (fun u hu e => ?_)).mono ?_
  · have h1 : w0.cell? ⟨b, 1, none⟩ = some v := by rw [Lib.cell_of_heap hbk]; rfl
    rw [hb.cell (p := ⟨b, 1, none⟩) hlt, h1] at hu
    have := (World.ownsRow.lt hown _ ((Option.some.inj hu) ▸ e)).2
    omega
  · rintro e w' ⟨rfl, ⟨h1, h2⟩, h3⟩
    exact ⟨rfl, .inr (by simpa [Lib.byteCells, Lib.strCells] using h1), h2, h3⟩
end Go.Proofs.YtgefgdkejenhnaaDoor
