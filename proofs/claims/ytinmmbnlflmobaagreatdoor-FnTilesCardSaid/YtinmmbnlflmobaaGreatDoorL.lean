/- Lexicons as arguments: how one is opened; szStringS, szLexicon, toStringS, toLexicon, eqLexicon, markLexicon, heldLexicon. No condition but the readings. -/
import Derived.Test.YtinmmbnlflmobaaGreatDoorF
import Derived.Test.YtinmmbnlflmobaaGreatDoorEq
import Derived.Test.YtinmmbnlflmobaaGreatDoorA
import Derived.SliceStrings
import Derived.Deep.OwnRows
import Derived.Laws.OwnMore
namespace Go.Proofs.YtinmmbnlflmobaaGreatDoor
open Go.ChangeShapes Go.WideShapes Go.ChangeAt Go.RowKit

theorem cell_plain {w : World} {a : Addr} {v : Value} (h : w.cell? a = some v) : ∃ b off, a = ⟨b, off, none⟩ := by
  obtain ⟨b, off, s⟩ := a
  cases s with
  | none => exact ⟨b, off, rfl⟩
  | some s => simp [World.cell?] at h; split at h <;> simp_all

theorem add_plain (b off i : Nat) : (⟨b, off, none⟩ : Addr).add i = ⟨b, off + i, none⟩ := by unfold Addr.add; split <;> simp_all

theorem strs_of_trod {H : Type} {enc : TypeId × Value → H} {P : Program} {w : World} {base : Nat} {held : Bool} {t e : TypeId} {fuel : Nat} {s : Value} {x : DataW H × List MemPlace}
    (ht : P.underlying t = some (.slice e)) (he : P.underlying e = some .string) (hc : P.cellsOf e = 1)
    (h : DataW.trod enc P w base (fun _ => true) held fuel t [s] = some x) : ∃ l, Strs w s l := by
  rcases open_strings ht he hc h with ⟨h1, _⟩ | ⟨a, len, cap, ss, h1, _, h2, h3, h4, _, h5, h6⟩
  · obtain rfl : s = .slice none 0 0 := by simpa using h1
    exact ⟨[], ⟨rfl, none, 0, rfl, Nat.le_refl _, by unfold maxLen; omega, fun j u hj => by simp at hj⟩, by simp⟩
  · obtain rfl : s = .slice (some a) len cap := by simpa using h1
    have h4' : ss.length = cap := by simpa using h4
    have hln : (ss.take len).length = len := by simp; omega
    refine ⟨ss.take len, ⟨by simp, some a, cap, by rw [hln], by omega, h3, fun j u hj => ?_⟩, fun s hs => h6 s (List.mem_of_mem_take hs)⟩
    have hjl : j < len := by have := (List.getElem?_eq_some_iff.1 hj).1; simp at this; omega
    have hc5 := h5 j (by omega)
    have hc0 := h5 0 (by omega)
    obtain ⟨b0, off0, hb0⟩ : ∃ b0 off0, a = ⟨b0, off0, none⟩ := by
      obtain ⟨b0, off0, s0⟩ := a
      cases s0 with
      | none => exact ⟨_, _, rfl⟩
      | some s0 => obtain ⟨b, off, hb⟩ := cell_plain hc0; simp [Addr.add] at hb
    subst hb0
    refine ⟨b0, off0, rfl, ?_⟩
    rw [add_plain] at hc5
    rw [hc5]
    rw [List.getElem?_map, List.getElem?_take, if_pos hjl, List.getElem?_eq_getElem (by omega)] at hj
    simp at hj
    rw [← hj, List.getD_eq_getElem?_getD, List.getElem?_eq_getElem (by omega)]; rfl

theorem u8_tri (a b : UInt8) : (decide (a < b) = true ∧ decide (b < a) = false ∧ (a == b) = false ∧ (b == a) = false) ∨ (decide (a < b) = false ∧ decide (b < a) = true ∧ (a == b) = false ∧ (b == a) = false) ∨ (a = b ∧ decide (a < b) = false ∧ decide (b < a) = false) := by
  simp only [UInt8.lt_iff_toNat_lt, beq_eq_false_iff_ne, ne_eq, ← UInt8.toNat_inj, decide_eq_true_eq, decide_eq_false_iff_not]
  omega
theorem bl_tri : ∀ (x y : List UInt8), (Op.bytesLess x y = true ∧ Op.bytesLess y x = false ∧ (x == y) = false ∧ (y == x) = false) ∨ (Op.bytesLess x y = false ∧ Op.bytesLess y x = true ∧ (x == y) = false ∧ (y == x) = false) ∨ (Op.bytesLess x y = false ∧ Op.bytesLess y x = false ∧ x = y)
  | [], [] => by simp [Op.bytesLess]
  | [], b :: y => by simp [Op.bytesLess]
  | a :: x, [] => by simp [Op.bytesLess]
  | a :: x, b :: y => by
    rcases u8_tri a b with ⟨h1, h2, h3, h4⟩ | ⟨h1, h2, h3, h4⟩ | ⟨rfl, h1, h2⟩
    · left; simp only [Op.bytesLess, h1, h2, h3, h4, List.cons_beq_cons, Bool.false_and, Bool.or_false, and_self]
    · right; left; simp only [Op.bytesLess, h1, h2, h3, h4, List.cons_beq_cons, Bool.false_and, Bool.or_false, and_self]
    · simp only [Op.bytesLess, h1, Bool.false_or, beq_self_eq_true, Bool.true_and, List.cons_beq_cons]
      rcases bl_tri x y with h | h | h
      · exact .inl h
      · exact .inr (.inl h)
      · exact .inr (.inr ⟨h.1, h.2.1, by rw [h.2.2]⟩)
theorem bl_trans : ∀ (x y z : List UInt8), Op.bytesLess x y = true → Op.bytesLess y z = true → Op.bytesLess x z = true
  | _, [], _ => by intro h; simp [Op.bytesLess] at h
  | _, b :: y, [] => by intro _ h; simp [Op.bytesLess] at h
  | [], b :: y, c :: z => by simp [Op.bytesLess]
  | a :: x, b :: y, c :: z => by
    have ih := bl_trans x y z
    simp only [Op.bytesLess, Bool.or_eq_true, decide_eq_true_eq, UInt8.lt_iff_toNat_lt, Bool.and_eq_true, beq_iff_eq, ← UInt8.toNat_inj]
    rintro (h1 | ⟨h1, h2⟩) (h3 | ⟨h3, h4⟩)
    · left; omega
    · left; omega
    · left; omega
    · right; exact ⟨h1.trans h3, ih h2 h4⟩

theorem cell_new (w : World) (x : Value) (t : TypeId) : (w.alloc (.cells #[x] t)).cell? ⟨w.heap.size, 0, none⟩ = some x := by
  have h := heap_alloc_new w (.cells #[x] t)
  simp only [World.cell?, h]
  rfl
theorem cell_newi (w : World) (cs : Array Value) (t : TypeId) (i : Nat) (x : Value) (h : cs[i]? = some x) : (w.alloc (.cells cs t)).cell? ⟨w.heap.size, i, none⟩ = some x := by
  have h2 := heap_alloc_new w (.cells cs t)
  simp only [World.cell?, h2]
  exact h
theorem cell_alloc {w : World} {a : Addr} {x : Value} (o : Obj) (h : w.cell? a = some x) : (w.alloc o).cell? a = some x :=
  (World.cell?_alloc_lt _ _ _ (World.block_lt_of_cell? w a h)).trans h
theorem cell_below {w w' : World} {a : Addr} {x : Value} (hb : Below w.heap.size w w') (h : w.cell? a = some x) : w'.cell? a = some x := (hb.cell (World.block_lt_of_cell? _ _ h)).trans h
theorem cell_kept {w w' : World} {lo hi : Nat} {a : Addr} {x : Value} (hk : Kept lo hi w w') (h : w.cell? a = some x) (hd : a.block < lo ∨ hi ≤ a.block) : w'.cell? a = some x := by
  have hb := hk.block a.block (World.block_lt_of_cell? _ _ h) hd
  rw [← h]; unfold World.cell?; rw [hb]
theorem keepC {w' w'' : World} {A : Addr} {s : Value} {p p' : Prop} (hb : Below w'.heap.size w' w'') (h : w'.cell? A = some s ∧ p) (k : p → p') : w''.cell? A = some s ∧ p' := ⟨cell_below hb h.1, k h.2⟩
theorem keepE {W0 w' w'' : World} (hb : Below w'.heap.size w' w'') (h : Below W0.heap.size W0 w') : Below W0.heap.size W0 w'' := h.trans (hb.mono h.size)
/-- A lexicon that reads as words. -/
def LexR (w : World) (v : Value) (l : List ByteArray) : Prop := ∃ s, v = .agg #[s] ∧ Strs w s l
def LexW (w : World) (lo hi : Nat) (v : Value) (l : List ByteArray) : Prop := ∃ s, v = .agg #[s] ∧ StrsW w lo hi s l
theorem LexR.below {w w' : World} {v l} (h : LexR w v l) (hb : Below w.heap.size w w') : LexR w' v l := by obtain ⟨s, rfl, h⟩ := h; exact ⟨s, rfl, h.below hb⟩
theorem LexW.below {w w' : World} {lo hi v l} (h : LexW w lo hi v l) (hb : Below w.heap.size w w') : LexW w' lo hi v l := by obtain ⟨s, rfl, h⟩ := h; exact ⟨s, rfl, h.below hb⟩
theorem LexW.kept {w w' : World} {lo hi lo' hi' v l} (h : LexW w lo hi v l) (hb : Kept lo' hi' w w') (hd : hi ≤ lo' ∨ hi' ≤ lo) : LexW w' lo hi v l := by obtain ⟨s, rfl, h⟩ := h; exact ⟨s, rfl, h.kept hb hd⟩
theorem LexW.read {w : World} {lo hi v l} (h : LexW w lo hi v l) : LexR w v l := by obtain ⟨s, rfl, h⟩ := h; exact ⟨s, rfl, h.read⟩
theorem LexW.mono {w : World} {lo hi lo' hi' v l} (h : LexW w lo hi v l) (hl : lo' ≤ lo) (hh : hi ≤ hi') : LexW w lo' hi' v l := by obtain ⟨s, rfl, h⟩ := h; exact ⟨s, rfl, h.mono hl hh⟩

theorem LexR.shape {w : World} {v l} (h : LexR w v l) : ∃ a c, v = .agg #[.slice a l.length c] := by
  obtain ⟨s, rfl, h⟩ := h
  obtain ⟨a, c, rfl, _⟩ := h.shape
  exact ⟨a, c, rfl⟩
theorem LexW.shape {w : World} {lo hi v l} (h : LexW w lo hi v l) : ∃ a c, v = .agg #[.slice a l.length c] := h.read.shape

/-- How much a []string counts for the limit. -/
def szL (l : List ByteArray) : Nat := l.length + (l.map ByteArray.size).sum
abbrev szLexR := szL
theorem szNLexicon {l : List ByteArray} {n : Nat} (h : szL l ≤ n) (hn : n ≤ 1048576) : l.length ≤ 1048576 := by unfold szL at h; omega
theorem szL_take (l : List ByteArray) (j : Nat) (h : j < l.length) : ((l.take (j + 1)).map ByteArray.size).sum = ((l.take j).map ByteArray.size).sum + l[j].size := by
  rw [List.take_succ_eq_append_getElem h, List.map_append, List.sum_append]; simp
theorem szL_le (l : List ByteArray) (j : Nat) : ((l.take j).map ByteArray.size).sum ≤ (l.map ByteArray.size).sum := by
  conv => rhs; rw [← List.take_append_drop j l]
  rw [List.map_append, List.sum_append]; omega



theorem set1 {w : World} {g : Nat} {x : Value} {t : TypeId} {fr : Nat × Nat} (y : Value) (h : w.heap[g]? = some (.cells #[x] t fr)) : (w.setCell ⟨g, 0, none⟩ y).heap[g]? = some (.cells #[y] t fr) := by
  simp [World.setCell, Array.getElem?_modify, h]
theorem kept_two {w : World} (g g2 : Nat) (u u2 : Value) {o o2 : Nat} (h : g ≤ g2 := by omega) : Kept g (g2 + 1) w ((w.setCell ⟨g2, o2, none⟩ u2).setCell ⟨g, o, none⟩ u) :=
  (kept_setCell h (by omega) u2).trans (kept_setCell (Nat.le_refl _) (by omega) u)


end Go.Proofs.YtinmmbnlflmobaaGreatDoor
