/- Marks of int slices and of tile sets. Condition: the slices lie in blocks of their own. -/
import Derived.Test.YtjgpcmjnmddbkaaDoorI
import Derived.Test.YtjgpcmjnmddbkaaDoorEq
namespace Go.Proofs.YtjgpcmjnmddbkaaDoor
open Go.RowKit
/-- n marks from k on, as numbers. -/
def imarks (k : Int) (n : Nat) : List Int := (List.range n).map fun (i : Nat) => k + (i : Int)
theorem imarks_length (k : Int) (n : Nat) : (imarks k n).length = n := by simp [imarks]
theorem imarks_get (k : Int) (n j : Nat) (h : j < (imarks k n).length) : (imarks k n)[j] = k + (j : Int) := by simp [imarks]
def imarked (k : Int) (l : List Int) (j : Nat) : List Int := imarks k j ++ l.drop j
theorem imarked_zero (k : Int) (l : List Int) : imarked k l 0 = l := by simp [imarked, imarks]
theorem imarked_all (k : Int) (l : List Int) : imarked k l l.length = imarks k l.length := by simp [imarked]
theorem imarked_length (k : Int) (l : List Int) (j : Nat) (_h : j ≤ l.length) : (imarked k l j).length = l.length := by simp [imarked, imarks]; omega
theorem imarked_get (k : Int) (l : List Int) (j : Nat) (h : j < l.length) : (imarked k l j)[j]? = some l[j] := by
  unfold imarked
  rw [List.getElem?_append_right (by simp [imarks]), List.getElem?_drop]; simp [imarks, h]
theorem imarked_succ (k : Int) (l : List Int) (j : Nat) (h : j < l.length) : (imarked k l j).set j (k + j) = imarked k l (j + 1) := by
  unfold imarked
  rw [List.set_append_right _ _ (by simp [imarks])]
  simp only [imarks_length, Nat.sub_self]
  rw [List.drop_eq_getElem_cons h, List.set_cons_zero]
  simp [imarks, List.range_succ]

set_option maxHeartbeats 400000 in
theorem markInt64S_any (v : Value) (l : List Int) (k : Int) (lo hi : Nat) (w : World) (hv : IntsW w lo hi v l) (hk0 : 0 ≤ k) (hk1 : k + l.length ≤ 9223372036854775807) :
    Calls Tryd.prog 46 #[v, .int .i64 k] w fun e w' => e = .returned (.int .i64 (k + l.length)) ∧ IntsW w' lo hi v (imarks k l.length) ∧ Kept lo hi w w' := by
  obtain ⟨a, c, hve, hl, hc, -⟩ := hv.read.shape
  unfold maxLen at hc
  subst hve
  go_enter Tryd.func46, Tryd.ntmps46
  go_wp2
  go_loopw [1, 5] (fun t i wr => ∃ j : Nat, j ≤ l.length ∧ i = .int .i64 j ∧ t = .int .i64 (k + j) ∧ IntsW wr lo hi (.slice a l.length c) (imarked k l j) ∧ Kept lo hi w wr) (fun _ i _ => l.length - (intOf i).toNat)
  case atStart => exact ⟨0, Nat.zero_le _, rfl, by go_num, by rw [imarked_zero]; exact hv, Kept.refl _ _ _⟩
  case round =>
    obtain ⟨j, hj, rfl, rfl, hs, hkept⟩ := hrel
    clear hv
    by_cases hlt : j < l.length
    · obtain ⟨a', c', hv', _, _, g, off, rfl, hg1, hg2, hg3, hcell, hfr, hst⟩ := hs.1.store (j := j) (by rw [imarked_length k l j hj]; omega)
      obtain ⟨rfl, -, rfl⟩ := Value.slice.inj hv'
      have hcell' : wr.cell? ⟨g, off + j, none⟩ = some (.int .i64 l[j]) := by rw [hcell, List.getElem?_map, imarked_get k l j hlt]; rfl
      have Hst := Lib.hid hst
      have hkj : k + (j : Int) ≤ 9223372036854775807 := by omega
      clear hcell hst hv'
      go_wp2
      go_roundw
      case rel =>
        refine ⟨j + 1, by omega, by go_num, by go_num, ⟨?_, ?_⟩, hkept.trans (kept_setCell hg1 hg2 _)⟩
        · have h2 := Hst.out (.int .i64 (k + j))
          rw [imarked_length k l j hj, ← List.map_set, imarked_succ k l j hlt] at h2
          rwa [imarked_length k l (j + 1) (by omega)]
        · intro s hsm
          rw [← imarked_succ k l j hlt] at hsm
          rcases List.mem_or_eq_of_mem_set hsm with h | rfl
          · exact hs.2 s h
          · unfold I64; omega
      case measure => simp [intOf]; omega
    · go_wp2
      go_ret
      obtain rfl : j = l.length := by omega
      rw [imarked_all] at hs
      exact ⟨rfl, hs, hkept⟩

set_option maxHeartbeats 400000 in
theorem heldInt64S_any (v : Value) (n : Nat) (k : Int) (w : World) (hv : Ints w v (imarks k n)) (hk0 : 0 ≤ k) (hk1 : k + n ≤ 9223372036854775807) :
    Calls Tryd.prog 47 #[v, .int .i64 k] w fun e w' => e = .returned (.int .i64 (k + n)) ∧ Below w.heap.size w w' := by
  obtain ⟨a, c, rfl, hl, hc, hcs⟩ := hv.shape
  unfold maxLen at hc
  rw [imarks_length] at hl
  simp only [imarks_length, imarks_get] at hcs ⊢
  clear hv
  go_enter Tryd.func47, Tryd.ntmps47
  go_wp2
  go_loopw [1, 5] (fun t i wr => ∃ j : Nat, j ≤ n ∧ i = .int .i64 j ∧ t = .int .i64 (k + j) ∧ Below w.heap.size w wr) (fun _ i _ => n - (intOf i).toNat)
  case atStart => exact ⟨0, Nat.zero_le _, rfl, by go_num, Below.refl _ _⟩
  case round =>
    obtain ⟨j, hj, rfl, rfl, hb⟩ := hrel
    by_cases hlt : j < n
    · obtain ⟨b, off, rfl, hcell, -⟩ := hcs j hlt
      have hcw : wr.cell? ⟨b, off + j, none⟩ = some (.int .i64 (k + j)) := by rw [hb.cell (cell_lt hcell), hcell]
      have hj0 : (0 : Int) ≤ (j : Int) := by omega
      have hj1 : (j : Int) < (n : Int) := by omega
      clear hcs hcell
      go_wp2
      go_roundw
      case rel => exact ⟨j + 1, by omega, by go_num, by go_num, hb⟩
      case measure => simp [intOf]; omega
    · go_wp2
      go_ret
      obtain rfl : j = n := by omega
      exact ⟨rfl, hb⟩
/-- A tile set of a call's own, whose two slices share no block. -/
def TilX (w : World) (lo hi : Nat) (v : Value) (x : TileD) : Prop := ∃ s1 s2 g1 g2, v = .agg #[.string x.letters, s1, s2, .int .i64 x.blanks] ∧ x.letters.size ≤ maxLen ∧ IntsW w g1 (g1 + 1) s1 x.values ∧ IntsW w g2 (g2 + 1) s2 x.counts ∧ I64 x.blanks ∧
  g1 ≠ g2 ∧ lo ≤ g1 ∧ g1 < hi ∧ lo ≤ g2 ∧ g2 < hi
theorem TilX.below {w w' : World} {lo hi v x} (h : TilX w lo hi v x) (hb : Below w.heap.size w w') : TilX w' lo hi v x := by
  obtain ⟨s1, s2, g1, g2, e, h0, h1, h2, h3, h4⟩ := h; exact ⟨s1, s2, g1, g2, e, h0, h1.below hb, h2.below hb, h3, h4⟩
theorem TilX.kept {w w' : World} {lo hi lo' hi' v x} (h : TilX w lo hi v x) (hb : Kept lo' hi' w w') (hd : hi ≤ lo' ∨ hi' ≤ lo) : TilX w' lo hi v x := by
  obtain ⟨s1, s2, g1, g2, e, h0, h1, h2, h3, h4, h5⟩ := h; exact ⟨s1, s2, g1, g2, e, h0, h1.kept hb (by omega), h2.kept hb (by omega), h3, h4, h5⟩
theorem TilX.read {w : World} {lo hi v x} (h : TilX w lo hi v x) : TilR w v x := by
  obtain ⟨s1, s2, g1, g2, e, h0, h1, h2, h3, h4⟩ := h; exact ⟨s1, s2, e, h0, h1.read, h2.read, h3⟩
theorem TilX.mono {w : World} {lo hi lo' hi' v x} (h : TilX w lo hi v x) (hl : lo' ≤ lo) (hh : hi ≤ hi') : TilX w lo' hi' v x := by
  obtain ⟨s1, s2, g1, g2, e, h0, h1, h2, h3, h4⟩ := h; exact ⟨s1, s2, g1, g2, e, h0, h1, h2, h3, by omega⟩
theorem TilX.shape {w : World} {lo hi v x} (h : TilX w lo hi v x) : ∃ a c b d, v = .agg #[.string x.letters, .slice a x.values.length c, .slice b x.counts.length d, .int .i64 x.blanks] := h.read.shape
/-- The marked tile set. -/
def marksT (k : Int) (x : TileD) : TileD := { x with values := imarks k x.values.length, counts := imarks (k + x.values.length) x.counts.length }
def cntT (x : TileD) : Nat := x.values.length + x.counts.length
theorem markTileSet_any (v : Value) (x : TileD) (k : Int) (lo hi : Nat) (w : World) (hv : TilX w lo hi v x) (hk0 : 0 ≤ k) (hk1 : k + cntT x ≤ 9223372036854775807) (hhi : hi ≤ w.heap.size) :
    Calls Tryd.prog 25 #[v, .int .i64 k] w fun e w' => e = .returned (.int .i64 (k + cntT x)) ∧ TilX w' lo hi v (marksT k x) ∧ Kept lo hi w w' := by
  obtain ⟨s1, s2, g1, g2, rfl, h0, hs1, hs2, h3, h4, h5, h6, h7, h8⟩ := hv
  unfold cntT at hk1 ⊢
  have hb0 : Below w.heap.size w (w.alloc (.cells #[.string x.letters, s1, s2, .int .i64 x.blanks] 36)) := (Below.refl _ _).alloc (Nat.le_refl _) _
  have c2 : (w.alloc (.cells #[.string x.letters, s1, s2, .int .i64 x.blanks] 36)).cell? ⟨w.heap.size, 2, none⟩ = some s2 := cell_newi _ _ _ 2 _ rfl
  have hk2 : k + (x.values.length : Int) + (x.counts.length : Int) ≤ 9223372036854775807 := by omega
  have hk3 : k + (x.values.length : Int) ≤ 9223372036854775807 := by omega
  go_enter Tryd.func25, Tryd.ntmps25
  go_wp2_with fail
  refine (markInt64S_any s1 _ k g1 (g1 + 1) _ (hs1.below hb0) hk0 (by omega)).mono ?_
  rintro e w1 ⟨rfl, hm1, hk⟩
  have hs2' := (hs2.below hb0).kept hk (by omega)
  have c2' := cell_kept hk c2 (by show w.heap.size < g1 ∨ g1 + 1 ≤ w.heap.size; omega)
  clear c2
  go_wp2_with fail
  refine (markInt64S_any s2 _ (k + x.values.length) g2 (g2 + 1) _ hs2' (by omega) (by omega)).mono ?_
  rintro e w2 ⟨rfl, hm2, hk'⟩
  have e1 : k + (x.values.length : Int) + (x.counts.length : Int) = k + ((x.values.length + x.counts.length : Nat) : Int) := by omega
  go_wp2
  go_ret
  exact ⟨ret_int (by omega), ⟨s1, s2, g1, g2, rfl, h0, by show IntsW w2 g1 (g1 + 1) s1 (imarks k x.values.length); exact hm1.kept hk' (by omega), hm2, h3, h4, h5, h6, h7, h8⟩,
    ((Kept.of_below (lo := lo) (hi := hi) hb0).trans (hk.mono h5 (by omega))).trans (hk'.mono h7 (by omega))⟩
theorem heldTileSet_any (v : Value) (x : TileD) (k : Int) (w : World) (hv : TilR w v (marksT k x)) (hk0 : 0 ≤ k) (hk1 : k + cntT x ≤ 9223372036854775807) :
    Calls Tryd.prog 26 #[v, .int .i64 k] w fun e w' => e = .returned (.int .i64 (k + cntT x)) ∧ Below w.heap.size w w' := by
  obtain ⟨s1, s2, rfl, h0, hs1, hs2, h3⟩ := hv
  unfold cntT at hk1 ⊢
  have hb0 : Below w.heap.size w (w.alloc (.cells #[.string x.letters, s1, s2, .int .i64 x.blanks] 36)) := (Below.refl _ _).alloc (Nat.le_refl _) _
  have c2 : (w.alloc (.cells #[.string x.letters, s1, s2, .int .i64 x.blanks] 36)).cell? ⟨w.heap.size, 2, none⟩ = some s2 := cell_newi _ _ _ 2 _ rfl
  have hk2 : k + (x.values.length : Int) + (x.counts.length : Int) ≤ 9223372036854775807 := by omega
  have hk3 : k + (x.values.length : Int) ≤ 9223372036854775807 := by omega
  have hk4 : ¬ k + (x.values.length : Int) < 0 := by omega
  have hk5 : ¬ k + (x.values.length : Int) + (x.counts.length : Int) < 0 := by omega
  go_enter Tryd.func26, Tryd.ntmps26
  go_wp2_with fail
  refine (heldInt64S_any s1 x.values.length k _ (hs1.below hb0) hk0 (by omega)).mono ?_
  rintro e w1 ⟨rfl, hb1⟩
  have c2' := cell_below hb1 c2
  have hb01 := hb0.trans (hb1.mono hb0.size)
  clear c2
  go_wp2_with fail
  refine (heldInt64S_any s2 x.counts.length (k + x.values.length) _ (hs2.below hb01) (by omega) (by omega)).mono ?_
  rintro e w2 ⟨rfl, hb2⟩
  have e1 : k + (x.values.length : Int) + (x.counts.length : Int) = k + ((x.values.length + x.counts.length : Nat) : Int) := by omega
  go_wp2
  go_ret
  exact ⟨ret_int (by omega), hb01.trans (hb2.mono hb01.size)⟩
end Go.Proofs.YtjgpcmjnmddbkaaDoor
