/- Slices of int64, and tile sets as arguments: how one is opened; szInt64S, toInt64S, eqInt64S, szTileSet, toTileSet, eqTileSet. No condition but the readings. -/
import Derived.Test.YtinmmbnlflmobaaGreatDoorL
import Derived.ChangeSlices
import Derived.Lib.SmallJoins
namespace Go.Proofs.YtinmmbnlflmobaaGreatDoor
open Go.ChangeShapes Go.WideShapes Go.ChangeAt Go.RowKit
/-- An int64. -/
def I64 (n : Int) : Prop := -9223372036854775808 ≤ n ∧ n ≤ 9223372036854775807
theorem I64.zero : I64 0 := by unfold I64; omega
theorem I64.of_wf {n : Int} (h : (Lit.int .i64 n).wf = true) : I64 n := by
  simp only [Lit.wf, Bool.and_eq_true, decide_eq_true_eq] at h
  exact h
/-- A []string. -/
def Ints (w : World) (v : Value) (l : List Int) : Prop := SlR w 1 v l.length (l.map (Value.int .i64)) ∧ ∀ s ∈ l, I64 s
def IntsW (w : World) (lo hi : Nat) (v : Value) (l : List Int) : Prop := SlW w lo hi 2 1 v l.length (l.map (Value.int .i64)) ∧ ∀ s ∈ l, I64 s
theorem Ints.below {w w' : World} {v l} (h : Ints w v l) (hb : Below w.heap.size w w') : Ints w' v l := ⟨h.1.below hb, h.2⟩
theorem IntsW.below {w w' : World} {lo hi v l} (h : IntsW w lo hi v l) (hb : Below w.heap.size w w') : IntsW w' lo hi v l := ⟨h.1.below hb, h.2⟩
theorem IntsW.kept {w w' : World} {lo hi lo' hi' v l} (h : IntsW w lo hi v l) (hb : Kept lo' hi' w w') (hd : hi ≤ lo' ∨ hi' ≤ lo) : IntsW w' lo hi v l := ⟨h.1.kept hb hd, h.2⟩
theorem IntsW.read {w : World} {lo hi v l} (h : IntsW w lo hi v l) : Ints w v l := ⟨h.1.read, h.2⟩
theorem IntsW.mono {w : World} {lo hi lo' hi' v l} (h : IntsW w lo hi v l) (hl : lo' ≤ lo) (hh : hi ≤ hi') : IntsW w lo' hi' v l := ⟨h.1.mono hl hh, h.2⟩

/-- The value's shape and its cells. -/
theorem Ints.shape {w : World} {v l} (h : Ints w v l) : ∃ a c, v = .slice a l.length c ∧ l.length ≤ c ∧ c ≤ maxLen ∧
    ∀ j, (hj : j < l.length) → ∃ b off, a = some ⟨b, off, none⟩ ∧ w.cell? ⟨b, off + j, none⟩ = some (.int .i64 l[j]) ∧ I64 l[j] := by
  obtain ⟨⟨_, a, c, h1, h2, h3, h4⟩, h5⟩ := h
  refine ⟨a, c, h1, h2, h3, fun j hj => ?_⟩
  obtain ⟨b, off, e, hc⟩ := h4 j (.int .i64 l[j]) (by simp [hj])
  exact ⟨b, off, e, hc, h5 _ (List.getElem_mem _)⟩


theorem ints_of_trod {H : Type} {enc : TypeId × Value → H} {P : Program} {w : World} {base : Nat} {held : Bool} {t e : TypeId} {fuel : Nat} {s : Value} {x : DataW H × List MemPlace}
    (ht : P.underlying t = some (.slice e)) (he : P.underlying e = some (.int .i64)) (hc : P.cellsOf e = 1)
    (h : DataW.trod enc P w base (fun _ => true) held fuel t [s] = some x) : ∃ l, Ints w s l := by
  rcases open_ints ht he hc h with ⟨h1, _⟩ | ⟨a, len, cap, ss, h1, _, h2, h3, h4, _, h5, h6⟩
  · obtain rfl : s = .slice none 0 0 := by simpa using h1
    exact ⟨[], ⟨rfl, none, 0, rfl, Nat.le_refl _, by unfold maxLen; omega, fun j u hj => by simp at hj⟩, by simp⟩
  · obtain rfl : s = .slice (some a) len cap := by simpa using h1
    have h4' : ss.length = cap := by simpa using h4
    have hln : (ss.take len).length = len := by simp; omega
    refine ⟨ss.take len, ⟨by simp, some a, cap, by rw [hln], by omega, h3, fun j u hj => ?_⟩, fun s hs => I64.of_wf (h6 s (List.mem_of_mem_take hs))⟩
    have hjl : j < len := by have := (List.getElem?_eq_some_iff.1 hj).1; simp at this; omega
    have hc5 := h5 j (by omega)
    have hc0 := h5 0 (by omega)
    obtain ⟨b0, off0, hb0⟩ : ∃ b0 off0, a = ⟨b0, off0, none⟩ := by
      obtain ⟨b0, off0, s0⟩ := a
      cases s0 with
      | none => exact ⟨_, _, rfl⟩
      | some s0 => obtain ⟨b, off, hb⟩ := cell_plain hc0; simp [Addr.add] at hb
    subst hb0
    refine ⟨b0, off0, rfl, ?_⟩
    rw [add_plain] at hc5
    rw [hc5]
    rw [List.getElem?_map, List.getElem?_take, if_pos hjl, List.getElem?_eq_getElem (by omega)] at hj
    simp at hj
    rw [← hj, List.getD_eq_getElem?_getD, List.getElem?_eq_getElem (by omega)]; rfl

/-- What a tile set holds. -/
structure TileD where
  letters : ByteArray
  values : List Int
  counts : List Int
  blanks : Int
deriving DecidableEq
def TilR (w : World) (v : Value) (x : TileD) : Prop := ∃ s1 s2, v = .agg #[.string x.letters, s1, s2, .int .i64 x.blanks] ∧ x.letters.size ≤ maxLen ∧ Ints w s1 x.values ∧ Ints w s2 x.counts ∧ I64 x.blanks
def TilW (w : World) (lo hi : Nat) (v : Value) (x : TileD) : Prop := ∃ s1 s2, v = .agg #[.string x.letters, s1, s2, .int .i64 x.blanks] ∧ x.letters.size ≤ maxLen ∧ IntsW w lo hi s1 x.values ∧ IntsW w lo hi s2 x.counts ∧ I64 x.blanks
theorem TilR.below {w w' : World} {v x} (h : TilR w v x) (hb : Below w.heap.size w w') : TilR w' v x := by obtain ⟨s1, s2, e, h0, h1, h2, h3⟩ := h; exact ⟨s1, s2, e, h0, h1.below hb, h2.below hb, h3⟩
theorem TilW.below {w w' : World} {lo hi v x} (h : TilW w lo hi v x) (hb : Below w.heap.size w w') : TilW w' lo hi v x := by obtain ⟨s1, s2, e, h0, h1, h2, h3⟩ := h; exact ⟨s1, s2, e, h0, h1.below hb, h2.below hb, h3⟩
theorem TilW.kept {w w' : World} {lo hi lo' hi' v x} (h : TilW w lo hi v x) (hb : Kept lo' hi' w w') (hd : hi ≤ lo' ∨ hi' ≤ lo) : TilW w' lo hi v x := by obtain ⟨s1, s2, e, h0, h1, h2, h3⟩ := h; exact ⟨s1, s2, e, h0, h1.kept hb hd, h2.kept hb hd, h3⟩
theorem TilW.read {w : World} {lo hi v x} (h : TilW w lo hi v x) : TilR w v x := by obtain ⟨s1, s2, e, h0, h1, h2, h3⟩ := h; exact ⟨s1, s2, e, h0, h1.read, h2.read, h3⟩
theorem TilW.mono {w : World} {lo hi lo' hi' v x} (h : TilW w lo hi v x) (hl : lo' ≤ lo) (hh : hi ≤ hi') : TilW w lo' hi' v x := by obtain ⟨s1, s2, e, h0, h1, h2, h3⟩ := h; exact ⟨s1, s2, e, h0, h1.mono hl hh, h2.mono hl hh, h3⟩
theorem TilR.shape {w : World} {v x} (h : TilR w v x) : ∃ a c b d, v = .agg #[.string x.letters, .slice a x.values.length c, .slice b x.counts.length d, .int .i64 x.blanks] := by
  obtain ⟨s1, s2, rfl, _, h1, h2, _⟩ := h
  obtain ⟨a, c, rfl, _⟩ := h1.shape
  obtain ⟨b, d, rfl, _⟩ := h2.shape
  exact ⟨a, c, b, d, rfl⟩
theorem TilW.shape {w : World} {lo hi v x} (h : TilW w lo hi v x) : ∃ a c b d, v = .agg #[.string x.letters, .slice a x.values.length c, .slice b x.counts.length d, .int .i64 x.blanks] := h.read.shape
theorem infoI64 : (Tryz.prog.info? 2).map (fun i => (i.zero, i.size, i.bytes)) = some (some (.int .i64 0), 1, 8) := by kernel_rfl

def szTilR (x : TileD) : Nat := x.letters.size + x.values.length + x.counts.length
structure TileLim (x : TileD) : Prop where
  l : x.letters.size ≤ 1048576
  v : x.values.length ≤ 1048576
  c : x.counts.length ≤ 1048576
theorem szNTileSet {x : TileD} {n : Nat} (h : szTilR x ≤ n) (hn : n ≤ 1048576) : TileLim x := by unfold szTilR at h; exact ⟨by omega, by omega, by omega⟩
theorem setn {w : World} {g i : Nat} {cs : Array Value} {t : TypeId} {fr : Nat × Nat} (y : Value) (h : w.heap[g]? = some (.cells cs t fr)) : (w.setCell ⟨g, i, none⟩ y).heap[g]? = some (.cells (cs.setIfInBounds i y) t fr) := by
  simp [World.setCell, Array.getElem?_modify, h]
theorem infoTil : (Tryz.prog.info? 26).map (·.size) = some 4 := by kernel_rfl
end Go.Proofs.YtinmmbnlflmobaaGreatDoor
