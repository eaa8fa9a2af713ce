/- Slices of int64, and tile sets as arguments: how one is opened; szInt64S, toInt64S, eqInt64S, szTileSet, toTileSet, eqTileSet. No condition but the readings. -/
import Derived.Test.YtjgpcmjnmddbkaaDoorL
import Derived.ChangeSlices
import Derived.Lib.SmallJoins
namespace Go.Proofs.YtjgpcmjnmddbkaaDoor
open Go.ChangeShapes Go.WideShapes Go.ChangeAt Go.RowKit
/-- An int64. -/
def I64 (n : Int) : Prop := -9223372036854775808 ≤ n ∧ n ≤ 9223372036854775807
theorem I64.zero : I64 0 := by unfold I64; omega
theorem I64.of_wf {n : Int} (h : (Lit.int .i64 n).wf = true) : I64 n := by
  simp only [Lit.wf, Bool.and_eq_true, decide_eq_true_eq] at h
  exact h
/-- A []string. -/
def Ints (w : World) (v : Value) (l : List Int) : Prop := SlR w 1 v l.length (l.map (Value.int .i64)) ∧ ∀ s ∈ l, I64 s
def IntsW (w : World) (lo hi : Nat) (v : Value) (l : List Int) : Prop := SlW w lo hi 2 1 v l.length (l.map (Value.int .i64)) ∧ ∀ s ∈ l, I64 s
theorem Ints.below {w w' : World} {v l} (h : Ints w v l) (hb : Below w.heap.size w w') : Ints w' v l := ⟨h.1.below hb, h.2⟩
theorem IntsW.below {w w' : World} {lo hi v l} (h : IntsW w lo hi v l) (hb : Below w.heap.size w w') : IntsW w' lo hi v l := ⟨h.1.below hb, h.2⟩
theorem IntsW.kept {w w' : World} {lo hi lo' hi' v l} (h : IntsW w lo hi v l) (hb : Kept lo' hi' w w') (hd : hi ≤ lo' ∨ hi' ≤ lo) : IntsW w' lo hi v l := ⟨h.1.kept hb hd, h.2⟩
theorem IntsW.read {w : World} {lo hi v l} (h : IntsW w lo hi v l) : Ints w v l := ⟨h.1.read, h.2⟩
theorem IntsW.mono {w : World} {lo hi lo' hi' v l} (h : IntsW w lo hi v l) (hl : lo' ≤ lo) (hh : hi ≤ hi') : IntsW w lo' hi' v l := ⟨h.1.mono hl hh, h.2⟩

/-- The value's shape and its cells. -/
theorem Ints.shape {w : World} {v l} (h : Ints w v l) : ∃ a c, v = .slice a l.length c ∧ l.length ≤ c ∧ c ≤ maxLen ∧
    ∀ j, (hj : j < l.length) → ∃ b off, a = some ⟨b, off, none⟩ ∧ w.cell? ⟨b, off + j, none⟩ = some (.int .i64 l[j]) ∧ I64 l[j] := by
  obtain ⟨⟨_, a, c, h1, h2, h3, h4⟩, h5⟩ := h
  refine ⟨a, c, h1, h2, h3, fun j hj => ?_⟩
  obtain ⟨b, off, e, hc⟩ := h4 j (.int .i64 l[j]) (by simp [hj])
  exact ⟨b, off, e, hc, h5 _ (List.getElem_mem _)⟩


theorem ints_of_trod {H : Type} {enc : TypeId × Value → H} {P : Program} {w : World} {base : Nat} {held : Bool} {t e : TypeId} {fuel : Nat} {s : Value} {x : DataW H × List MemPlace}
    (ht : P.underlying t = some (.slice e)) (he : P.underlying e = some (.int .i64)) (hc : P.cellsOf e = 1)
    (h : DataW.trod enc P w base (fun _ => true) held fuel t [s] = some x) : ∃ l, Ints w s l := by
  rcases open_ints ht he hc h with ⟨h1, _⟩ | ⟨a, len, cap, ss, h1, _, h2, h3, h4, _, h5, h6⟩
  · obtain rfl : s = .slice none 0 0 := by simpa using h1
    exact ⟨[], ⟨rfl, none, 0, rfl, Nat.le_refl _, by unfold maxLen; omega, fun j u hj => by simp at hj⟩, by simp⟩
  · obtain rfl : s = .slice (some a) len cap := by simpa using h1
    have h4' : ss.length = cap := by simpa using h4
    have hln : (ss.take len).length = len := by simp; omega
    refine ⟨ss.take len, ⟨by simp, some a, cap, by rw [hln], by omega, h3, fun j u hj => ?_⟩, fun s hs => I64.of_wf (h6 s (List.mem_of_mem_take hs))⟩
    have hjl : j < len := by have := (List.getElem?_eq_some_iff.1 hj).1; simp at this; omega
    have hc5 := h5 j (by omega)
    have hc0 := h5 0 (by omega)
    obtain ⟨b0, off0, hb0⟩ : ∃ b0 off0, a = ⟨b0, off0, none⟩ := by
      obtain ⟨b0, off0, s0⟩ := a
      cases s0 with
      | none => exact ⟨_, _, rfl⟩
      | some s0 => obtain ⟨b, off, hb⟩ := cell_plain hc0; simp [Addr.add] at hb
    subst hb0
    refine ⟨b0, off0, rfl, ?_⟩
    rw [add_plain] at hc5
    rw [hc5]
    rw [List.getElem?_map, List.getElem?_take, if_pos hjl, List.getElem?_eq_getElem (by omega)] at hj
    simp at hj
    rw [← hj, List.getD_eq_getElem?_getD, List.getElem?_eq_getElem (by omega)]; rfl

/-- What a tile set holds. -/
structure TileD where
  letters : ByteArray
  values : List Int
  counts : List Int
  blanks : Int
deriving DecidableEq
def TilR (w : World) (v : Value) (x : TileD) : Prop := ∃ s1 s2, v = .agg #[.string x.letters, s1, s2, .int .i64 x.blanks] ∧ x.letters.size ≤ maxLen ∧ Ints w s1 x.values ∧ Ints w s2 x.counts ∧ I64 x.blanks
def TilW (w : World) (lo hi : Nat) (v : Value) (x : TileD) : Prop := ∃ s1 s2, v = .agg #[.string x.letters, s1, s2, .int .i64 x.blanks] ∧ x.letters.size ≤ maxLen ∧ IntsW w lo hi s1 x.values ∧ IntsW w lo hi s2 x.counts ∧ I64 x.blanks
theorem TilR.below {w w' : World} {v x} (h : TilR w v x) (hb : Below w.heap.size w w') : TilR w' v x := by obtain ⟨s1, s2, e, h0, h1, h2, h3⟩ := h; exact ⟨s1, s2, e, h0, h1.below hb, h2.below hb, h3⟩
theorem TilW.below {w w' : World} {lo hi v x} (h : TilW w lo hi v x) (hb : Below w.heap.size w w') : TilW w' lo hi v x := by obtain ⟨s1, s2, e, h0, h1, h2, h3⟩ := h; exact ⟨s1, s2, e, h0, h1.below hb, h2.below hb, h3⟩
theorem TilW.kept {w w' : World} {lo hi lo' hi' v x} (h : TilW w lo hi v x) (hb : Kept lo' hi' w w') (hd : hi ≤ lo' ∨ hi' ≤ lo) : TilW w' lo hi v x := by obtain ⟨s1, s2, e, h0, h1, h2, h3⟩ := h; exact ⟨s1, s2, e, h0, h1.kept hb hd, h2.kept hb hd, h3⟩
theorem TilW.read {w : World} {lo hi v x} (h : TilW w lo hi v x) : TilR w v x := by obtain ⟨s1, s2, e, h0, h1, h2, h3⟩ := h; exact ⟨s1, s2, e, h0, h1.read, h2.read, h3⟩
theorem TilW.mono {w : World} {lo hi lo' hi' v x} (h : TilW w lo hi v x) (hl : lo' ≤ lo) (hh : hi ≤ hi') : TilW w lo' hi' v x := by obtain ⟨s1, s2, e, h0, h1, h2, h3⟩ := h; exact ⟨s1, s2, e, h0, h1.mono hl hh, h2.mono hl hh, h3⟩
theorem TilR.shape {w : World} {v x} (h : TilR w v x) : ∃ a c b d, v = .agg #[.string x.letters, .slice a x.values.length c, .slice b x.counts.length d, .int .i64 x.blanks] := by
  obtain ⟨s1, s2, rfl, _, h1, h2, _⟩ := h
  obtain ⟨a, c, rfl, _⟩ := h1.shape
  obtain ⟨b, d, rfl, _⟩ := h2.shape
  exact ⟨a, c, b, d, rfl⟩
theorem TilW.shape {w : World} {lo hi v x} (h : TilW w lo hi v x) : ∃ a c b d, v = .agg #[.string x.letters, .slice a x.values.length c, .slice b x.counts.length d, .int .i64 x.blanks] := h.read.shape
set_option maxRecDepth 100000 in
theorem open_TileSet {H : Type} {enc : TypeId × Value → H} {W : World} {b0 : Nat} {held : Bool} {v : Value} {d : DataW H} {p : List MemPlace}
    (hv : Value.okWide Tryd.prog W .any b0 33 v) (h : DataW.Trod enc Tryd.prog W 0 (fun _ => true) held 33 v d p) : ∃ x, TilR W v x := by
  obtain ⟨v0, v1, v2, v3, y0, y1, y2, y3, n, rfl, -, -, h0, h1, h2, h3⟩ := Joins.open_agg4 Tryd.underlying33 (by kernel_rfl) (by kernel_rfl) hv h
  obtain ⟨s, e0, -, w0⟩ := DataW.trod_string Tryd.underlying9 h0
  obtain ⟨m, e3, -, w3⟩ := DataW.trod_int Tryd.underlying2 h3
  obtain ⟨l1, r1⟩ := ints_of_trod Tryd.underlying31 Tryd.underlying2 (by kernel_rfl) h1
  obtain ⟨l2, r2⟩ := ints_of_trod Tryd.underlying31 Tryd.underlying2 (by kernel_rfl) h2
  obtain rfl : v0 = .string s := by simpa using e0
  obtain rfl : v3 = .int .i64 m := by simpa using e3
  exact ⟨⟨s, l1, l2, m⟩, v1, v2, rfl, w0, r1, r2, I64.of_wf w3⟩
theorem infoI64 : (Tryd.prog.info? 2).map (fun i => (i.zero, i.size, i.bytes)) = some (some (.int .i64 0), 1, 8) := by kernel_rfl
/-- The first j strings are icopied, the others empty. -/
def icopied (l : List Int) (j : Nat) : List Int := l.take j ++ List.replicate (l.length - j) 0
theorem icopied_length (l : List Int) (j : Nat) (h : j ≤ l.length) : (icopied l j).length = l.length := by simp [icopied]; omega
theorem icopied_all (l : List Int) : icopied l l.length = l := by simp [icopied]
theorem icopied_get (l : List Int) (j : Nat) (h : j < l.length) : (icopied l j)[j]? = some 0 := by
  unfold icopied
  rw [List.getElem?_append_right (by simp; omega)]; simp [Nat.min_eq_left (Nat.le_of_lt h)]; rw [List.getElem?_replicate, if_pos (by omega)]
theorem icopied_succ (l : List Int) (j : Nat) (h : j < l.length) : (icopied l j).set j l[j] = icopied l (j + 1) := by
  unfold icopied
  rw [List.set_append_right _ _ (by simp; omega), List.take_succ_eq_append_getElem h, List.append_assoc]
  congr 1
  obtain ⟨n, hn⟩ : ∃ n, l.length - j = n + 1 := ⟨l.length - j - 1, by omega⟩
  rw [hn, show l.length - (j + 1) = n by omega, List.replicate_succ]
  simp [Nat.min_eq_left (Nat.le_of_lt h)]

set_option maxHeartbeats 400000 in
theorem toInt64S_any (v : Value) (l : List Int) (w : World) (hv : Ints w v l) (hn : l.length ≤ 1048576) :
    Calls Tryd.prog 40 #[v] w fun e w' => ∃ s, e = .returned s ∧ IntsW w' w.heap.size w'.heap.size s l ∧ Below w.heap.size w w' := by
  obtain ⟨a, c, rfl, hl, hc, hcs⟩ := hv.shape
  have Hall := Lib.hid hv.2
  unfold maxLen at hc
  clear hv
  have hmk := run_make_row' (P := Tryd.prog) 31 2 (.int .i64 0) 8 Tryd.underlying31 infoI64 rfl .i64 .i64 l.length (by omega) (by omega)
  go_enter Tryd.func40, Tryd.ntmps40
  go_wp2
  clear hmk
  go_loopw [4] (fun i wr => ∃ j : Nat, j ≤ l.length ∧ i = .int .i64 j ∧ IntsW wr w.heap.size (w.heap.size + 1) (.slice (some ⟨w.heap.size, 0, none⟩) l.length l.length) (icopied l j) ∧ Below w.heap.size w wr ∧ Hid (w.heap.size + 1 ≤ wr.heap.size)) (fun i _ => l.length - (intOf i).toNat)
  case atStart =>
    refine ⟨0, Nat.zero_le _, rfl, ⟨⟨by simp, _, _, by rw [icopied_length _ _ (Nat.zero_le _)], by rw [icopied_length _ _ (Nat.zero_le _)]; exact Nat.le_refl _, by unfold maxLen; omega, .inr ⟨w.heap.size, 0, _, rfl, Nat.le_refl _, by omega, heap_alloc_new w _, ?_, ?_⟩⟩, ?_⟩, (Below.refl _ _).alloc (Nat.le_refl _) _, Lib.hid (by simp)⟩
    · rw [icopied_length _ _ (Nat.zero_le _), size_madeCells]; omega
    · rw [icopied_length _ _ (Nat.zero_le _), toList_madeCells_one]; simp [icopied]
    · intro s hs; simp [icopied] at hs; obtain ⟨_, rfl⟩ := hs; exact I64.zero
  case round =>
    obtain ⟨j, hj, rfl, hs, hb, Hsz⟩ := hrel
    by_cases hlt : j < l.length
    · obtain ⟨b, off, rfl, hcell, hsz⟩ := hcs j hlt
      have hcw : wr.cell? ⟨b, off + j, none⟩ = some (.int .i64 l[j]) := (hb.cell (cell_lt hcell)).trans hcell
      have Hcs := Lib.hid hcs
      clear hcs hcell
      obtain ⟨a', c', hv', _, _, g, off', rfl, hg1, hg2, hg3, hcell, hfr, hst⟩ := hs.1.store (j := j) (by rw [icopied_length l j hj]; omega)
      rw [icopied_length l j hj] at hv'
      injection hv' with e1 e2 e3
      injection e1 with e1
      injection e1 with e4 e5 e6
      subst e4
      subst e5
      subst e3
      have hcell' : wr.cell? ⟨w.heap.size, 0 + j, none⟩ = some (.int .i64 0) := by rw [hcell, List.getElem?_map, icopied_get l j hlt]; rfl
      rw [Nat.zero_add] at hcell' hfr
      have Hst := Lib.hid hst
      have Hs2 := Lib.hid hs.2
      clear hcell hst hs
      go_wp2
      go_roundw
      case rel =>
        refine ⟨j + 1, by omega, by go_num, ⟨?_, ?_⟩, hb.trans ((kept_setCell hg1 hg2 _).below (Nat.le_refl _) hb.size), Lib.hid (by have := Hsz.out; simpa [World.setCell] using this)⟩
        · have h2 := Hst.out (.int .i64 l[j])
          rw [icopied_length l j hj, ← List.map_set, icopied_succ l j hlt] at h2
          rw [icopied_length l (j + 1) (by omega)]
          simpa using h2
        · intro s hsm
          rw [← icopied_succ l j hlt] at hsm
          rcases List.mem_or_eq_of_mem_set hsm with h | rfl
          · exact Hs2.out s h
          · exact hsz
      case measure => simp [intOf]; omega
    · go_wp2
      go_ret
      obtain rfl : j = l.length := by omega
      rw [icopied_all] at hs
      exact ⟨_, rfl, hs.mono (Nat.le_refl _) Hsz.out, hb⟩
set_option maxHeartbeats 400000 in
theorem eqInt64S_any (a b : Value) (l1 l2 : List Int) (w : World) (ha : Ints w a l1) (hb : Ints w b l2) :
    Calls Tryd.prog 43 #[a, b] w fun e w' => e = .returned (.bool (decide (l1 = l2))) ∧ Below w.heap.size w w' := by
  obtain ⟨a1, c1, rfl, h1, h1', h1c⟩ := ha.shape
  obtain ⟨a2, c2, rfl, h2, h2', h2c⟩ := hb.shape
  clear ha hb
  unfold maxLen at h1' h2'
  by_cases hlen : l1.length = l2.length
  · have Hlen := Lib.hid hlen
    have hl0 : ((l1.length : Int) != (l2.length : Int)) = false := by rw [bne_eq_false_iff_eq]; omega
    clear hlen
    go_enter Tryd.func43, Tryd.ntmps43
    go_wp2
    go_loopw [5] (fun i wr => ∃ k : Nat, k ≤ l1.length ∧ i = .int .i64 k ∧ l1.take k = l2.take k ∧ Below w.heap.size w wr) (fun i _ => l1.length - (intOf i).toNat)
    case atStart => exact ⟨0, Nat.zero_le _, rfl, rfl, Below.refl _ _⟩
    case round =>
      obtain ⟨k, hk, rfl, heq, hbl⟩ := hrel
      have Heq := Lib.hid heq; clear heq
      by_cases hlt : k < l1.length
      · obtain ⟨b1, o1, rfl, hc1, hs1⟩ := h1c k hlt
        obtain ⟨b2, o2, rfl, hc2, hs2⟩ := h2c k (by have := Hlen.out; omega)
        have hw1 : wr.cell? ⟨b1, o1 + k, none⟩ = some (.int .i64 l1[k]) := (hbl.cell (cell_lt hc1)).trans hc1
        have hw2 : wr.cell? ⟨b2, o2 + k, none⟩ = some (.int .i64 (l2[k]'(by have := Hlen.out; omega))) := (hbl.cell (cell_lt hc2)).trans hc2
        have hlt2 : k < l2.length := by have := Hlen.out; omega
        clear hc1 hc2 h1c h2c hs1 hs2
        cases hd : (l1[k] == l2[k])
        · go_wp2
          go_quiet (fail)
          go_wp2
          go_ret
          exact ⟨ret_bool (by rw [eq_comm, decide_eq_false_iff_not]; rintro rfl; simp at hd), below_drewN hbl _⟩
        · go_wp2
          go_quiet (fail)
          go_wp2
          go_roundw
          case rel => exact ⟨k + 1, by omega, by go_num, take_eq_succ Heq.out hlt hlt2 (by simpa using hd), below_drewN hbl _⟩
          case measure => simp [intOf]; omega
      · go_wp2
        go_ret
        refine ⟨ret_bool ?_, hbl⟩
        rw [eq_comm, decide_eq_true_iff]
        have h := Heq.out
        rwa [List.take_of_length_le (by omega), List.take_of_length_le (by have := Hlen.out; omega)] at h
  · have hl0 : ((l1.length : Int) != (l2.length : Int)) = true := by rw [bne_iff_ne]; omega
    have H := Lib.hid hlen
    clear hlen
    go_enter Tryd.func43, Tryd.ntmps43
    go_wp2
    go_ret
    exact ⟨ret_bool (by rw [eq_comm, decide_eq_false_iff_not]; rintro rfl; exact H.out rfl), Below.refl _ _⟩


theorem szInt64S_any (v : Value) (l : List Int) (z : Int) (left : Nat) (w : World) (hv : Ints w v l) (hz : z = (left : Int)) (hleft : left ≤ 1048576) :
    Calls Tryd.prog 37 #[v, .int .i64 z] w fun e w' => ((l.length ≤ left ∧ e = .returned (.int .i64 ((left - l.length : Nat) : Int))) ∨ (left < l.length ∧ e = .returned (.int .i64 (-1)))) ∧ w' = w := by
  subst hz
  obtain ⟨a, c, rfl, hl, hc, hcs⟩ := hv.shape
  unfold maxLen at hc
  clear hv hcs
  by_cases h0 : l.length ≤ left
  · go_enter Tryd.func37, Tryd.ntmps37
    go_wp2
    go_ret
    exact ⟨.inl ⟨h0, ret_int (by omega)⟩, rfl⟩
  · go_enter Tryd.func37, Tryd.ntmps37
    go_wp2
    go_ret
    exact ⟨.inr ⟨by omega, rfl⟩, rfl⟩
def szTilR (x : TileD) : Nat := x.letters.size + x.values.length + x.counts.length
structure TileLim (x : TileD) : Prop where
  l : x.letters.size ≤ 1048576
  v : x.values.length ≤ 1048576
  c : x.counts.length ≤ 1048576
theorem szNTileSet {x : TileD} {n : Nat} (h : szTilR x ≤ n) (hn : n ≤ 1048576) : TileLim x := by unfold szTilR at h; exact ⟨by omega, by omega, by omega⟩
set_option maxHeartbeats 1000000 in
theorem szTileSet_any (v : Value) (x : TileD) (z : Int) (left : Nat) (w : World) (hv : TilR w v x) (hz : z = (left : Int)) (hleft : left ≤ 1048576) :
    Calls Tryd.prog 18 #[v, .int .i64 z] w fun e w' => ((szTilR x ≤ left ∧ e = .returned (.int .i64 ((left - szTilR x : Nat) : Int))) ∨ (left < szTilR x ∧ e = .returned (.int .i64 (-1)))) ∧ Below w.heap.size w w' := by
  subst hz
  obtain ⟨s1, s2, rfl, hls, h1, h2, hb⟩ := hv
  have Hls := Lib.hid hls
  unfold maxLen at hls
  have hb0 : Below w.heap.size w (w.alloc (.cells #[.string x.letters, s1, s2, .int .i64 x.blanks] 33)) := (Below.refl _ _).alloc (Nat.le_refl _) _
  have h1' := h1.below hb0
  have h2' := h2.below hb0
  clear h1 h2 hb
  by_cases hA : x.letters.size ≤ left
  · by_cases hB : x.values.length ≤ left - x.letters.size
    · by_cases hC : x.counts.length ≤ left - x.letters.size - x.values.length
      · go_enter Tryd.func18, Tryd.ntmps18
        go_wp2_with fail
        refine (szInt64S_any _ x.values _ (left - x.letters.size) _ h1' (by omega) (by omega)).mono ?_
        rintro e w1 ⟨⟨hle, rfl⟩ | ⟨hlt, rfl⟩, rfl⟩
        · clear hle
          go_wp2_with fail
          refine (szInt64S_any _ x.counts _ (left - x.letters.size - x.values.length) _ h2' (by omega) (by omega)).mono ?_
          rintro e w1 ⟨⟨hle, rfl⟩ | ⟨hlt, rfl⟩, rfl⟩
          · clear hle
            go_wp2
            go_ret
            exact ⟨.inl ⟨by unfold szTilR; omega, ret_int (by unfold szTilR; omega)⟩, hb0⟩
          · omega
        · omega
      · go_enter Tryd.func18, Tryd.ntmps18
        go_wp2_with fail
        refine (szInt64S_any _ x.values _ (left - x.letters.size) _ h1' (by omega) (by omega)).mono ?_
        rintro e w1 ⟨⟨hle, rfl⟩ | ⟨hlt, rfl⟩, rfl⟩
        · clear hle
          go_wp2_with fail
          refine (szInt64S_any _ x.counts _ (left - x.letters.size - x.values.length) _ h2' (by omega) (by omega)).mono ?_
          rintro e w1 ⟨⟨hle, rfl⟩ | ⟨hlt, rfl⟩, rfl⟩
          · omega
          · clear hlt
            go_wp2
            go_ret
            exact ⟨.inr ⟨by unfold szTilR; omega, rfl⟩, hb0⟩
        · omega
    · go_enter Tryd.func18, Tryd.ntmps18
      go_wp2_with fail
      refine (szInt64S_any _ x.values _ (left - x.letters.size) _ h1' (by omega) (by omega)).mono ?_
      rintro e w1 ⟨⟨hle, rfl⟩ | ⟨hlt, rfl⟩, rfl⟩
      · omega
      · clear hlt
        go_wp2
        go_ret
        exact ⟨.inr ⟨by unfold szTilR; omega, rfl⟩, hb0⟩
  · go_enter Tryd.func18, Tryd.ntmps18
    go_wp2
    go_ret
    exact ⟨.inr ⟨by unfold szTilR; omega, rfl⟩, hb0⟩
theorem setn {w : World} {g i : Nat} {cs : Array Value} {t : TypeId} {fr : Nat × Nat} (y : Value) (h : w.heap[g]? = some (.cells cs t fr)) : (w.setCell ⟨g, i, none⟩ y).heap[g]? = some (.cells (cs.setIfInBounds i y) t fr) := by
  simp [World.setCell, Array.getElem?_modify, h]
theorem infoTil : (Tryd.prog.info? 36).map (·.size) = some 4 := by kernel_rfl
set_option maxHeartbeats 2000000 in
theorem toTileSet_any (v : Value) (x : TileD) (w : World) (hv : TilR w v x) (hn : TileLim x) :
    Calls Tryd.prog 20 #[v] w fun e w' => ∃ s, e = .returned s ∧ TilW w' w.heap.size w'.heap.size s x ∧ Below w.heap.size w w' := by
  obtain ⟨s1, s2, rfl, hls, h1, h2, hb⟩ := hv
  have Hls := Lib.hid hls
  have Hbl := Lib.hid hb
  clear hls
  have hb0 : Below w.heap.size w (((w.alloc (.cells #[.string x.letters, s1, s2, .int .i64 x.blanks] 33)).alloc (.cells #[.string ⟨#[]⟩, .slice none 0 0, .slice none 0 0, .int .i64 0] 36)).alloc (.cells #[.string ⟨#[]⟩, .slice none 0 0, .slice none 0 0, .int .i64 0] 36)) :=
    (((Below.refl _ _).alloc (Nat.le_refl _) _).alloc (by simp) _).alloc (by simp; try omega) _
  go_enter Tryd.func20, Tryd.ntmps20
  go_wp2_with fail
  have hx1 : Below w.heap.size w (((w.alloc (.cells #[.string x.letters, s1, s2, .int .i64 x.blanks] 33)).alloc (.cells #[.string ⟨#[]⟩, .slice none 0 0, .slice none 0 0, .int .i64 0] 36)).alloc (.cells #[.string x.letters, .slice none 0 0, .slice none 0 0, .int .i64 0] 36)) :=
    (((Below.refl _ _).alloc (Nat.le_refl _) _).alloc (by simp) _).alloc (by simp; omega) _
  refine (toInt64S_any _ x.values _ (h1.below hx1) hn.v).mono ?_
  rintro e w1 ⟨v1, rfl, hv1, hb1⟩
  have hsz1 : w.heap.size + 1 + 1 + 1 ≤ w1.heap.size := by have := hb1.size; simpa using this
  have hbb1 := hx1.trans (hb1.mono hx1.size)
  have k0 : w1.heap[w.heap.size]? = some (.cells #[.string x.letters, s1, s2, .int .i64 x.blanks] 33 (0, 0)) := by rw [hb1.block _ (by simp; omega)]; exact heap3_0 w _ _ _
  have k1 : w1.heap[w.heap.size + 1]? = some (.cells #[.string ⟨#[]⟩, .slice none 0 0, .slice none 0 0, .int .i64 0] 36 (0, 0)) := by rw [hb1.block _ (by simp)]; exact heap3_1 w _ _ _
  have k2 : w1.heap[w.heap.size + 1 + 1]? = some (.cells #[.string x.letters, .slice none 0 0, .slice none 0 0, .int .i64 0] 36 (0, 0)) := by rw [hb1.block _ (by simp)]; exact heap3_2 w _ _ _
  obtain ⟨a1, c1, rfl, -, -, -⟩ := hv1.read.shape
  have K0 := Lib.hid k0
  have K1 := Lib.hid k1
  have K2 := Lib.hid k2
  have Hv1 := Lib.hid hv1
  have Hbb1 := Lib.hid hbb1
  have c02 : w1.cell? ⟨w.heap.size, 2, none⟩ = some s2 := by simp [World.cell?, k0]
  have c21 : w1.cell? ⟨w.heap.size + 1 + 1, 1, none⟩ = some (.slice none 0 0) := by simp [World.cell?, k2]
  have f21 : w1.frozen? ⟨w.heap.size + 1 + 1, 1, none⟩ = false := by simp [World.frozen?, k2]
  clear k0 k1 k2 hv1 hbb1 hb1 hx1 hb0
  go_wp2_with fail
  have hk : Kept (w.heap.size + 1 + 1) (w.heap.size + 1 + 1 + 1) w1 (w1.setCell ⟨w.heap.size + 1 + 1, 1, none⟩ (.slice a1 x.values.length c1)) := kept_setCell (Nat.le_refl _) (by omega) _
  have K0' := Lib.hid ((hk.block _ (by omega) (by omega)).trans K0.out)
  have K1' := Lib.hid ((hk.block _ (by omega) (by omega)).trans K1.out)
  have K2' := Lib.hid (setn (i := 1) (.slice a1 x.values.length c1) K2.out)
  have Hv1' := Lib.hid (Hv1.out.kept hk (.inr (by simp)))
  have Hbb2 := Lib.hid (Hbb1.out.trans (hk.below (by omega) Hbb1.out.size))
  have hsz2 : (w1.setCell ⟨w.heap.size + 1 + 1, 1, none⟩ (.slice a1 x.values.length c1)).heap.size = w1.heap.size := by simp [World.setCell]
  clear c02 c21 f21 K0 K1 K2 Hv1 Hbb1 hk
  generalize w1.setCell ⟨w.heap.size + 1 + 1, 1, none⟩ (.slice a1 x.values.length c1) = w2 at K0' K1' K2' Hv1' Hbb2 hsz2 ⊢
  refine (toInt64S_any _ x.counts _ (h2.below Hbb2.out) hn.c).mono ?_
  rintro e w3 ⟨v2, rfl, hv2, hb3⟩
  obtain ⟨a2, c2, rfl, -, -, -⟩ := hv2.read.shape
  have k0 := (hb3.block w.heap.size (by omega)).trans K0'.out
  have k1 := (hb3.block (w.heap.size + 1) (by omega)).trans K1'.out
  have k2 := (hb3.block (w.heap.size + 1 + 1) (by omega)).trans K2'.out
  have hsz3 := hb3.size
  have Hv1 := Lib.hid (Hv1'.out.below hb3)
  have Hv2 := Lib.hid hv2
  have Hbb3 := Lib.hid (Hbb2.out.trans (hb3.mono Hbb2.out.size))
  have K1 := Lib.hid k1
  have K2 := Lib.hid k2
  have c03 : w3.cell? ⟨w.heap.size, 3, none⟩ = some (.int .i64 x.blanks) := by simp [World.cell?, k0]
  have c20 : w3.cell? ⟨w.heap.size + 1 + 1, 0, none⟩ = some (.string x.letters) := by simp [World.cell?, k2]
  have c21 : w3.cell? ⟨w.heap.size + 1 + 1, 1, none⟩ = some (.slice a1 x.values.length c1) := by simp [World.cell?, k2]
  have c22 : w3.cell? ⟨w.heap.size + 1 + 1, 2, none⟩ = some (.slice none 0 0) := by simp [World.cell?, k2]
  have c23 : w3.cell? ⟨w.heap.size + 1 + 1, 3, none⟩ = some (.int .i64 0) := by simp [World.cell?, k2]
  have c10 : w3.cell? ⟨w.heap.size + 1, 0, none⟩ = some (.string ⟨#[]⟩) := by simp [World.cell?, k1]
  have c11 : w3.cell? ⟨w.heap.size + 1, 1, none⟩ = some (.slice none 0 0) := by simp [World.cell?, k1]
  have c12 : w3.cell? ⟨w.heap.size + 1, 2, none⟩ = some (.slice none 0 0) := by simp [World.cell?, k1]
  have c13 : w3.cell? ⟨w.heap.size + 1, 3, none⟩ = some (.int .i64 0) := by simp [World.cell?, k1]
  have f2 : ∀ i, w3.frozen? ⟨w.heap.size + 1 + 1, i, none⟩ = false := by intro i; simp [World.frozen?, k2]
  have f1 : ∀ i, w3.frozen? ⟨w.heap.size + 1, i, none⟩ = false := by intro i; simp [World.frozen?, k1]
  clear k0 k1 k2 hv2 hb3 K0' K1' K2' Hv1' Hbb2 h1 h2 hb
  go_wp2
  have hk6 : Kept (w.heap.size + 1) (w.heap.size + 1 + 1 + 1) w3 ((((((w3.setCell ⟨w.heap.size + 1 + 1, 2, none⟩ (.slice a2 x.counts.length c2)).setCell ⟨w.heap.size + 1 + 1, 3, none⟩ (.int .i64 x.blanks)).setCell ⟨w.heap.size + 1, 0, none⟩ (.string x.letters)).setCell ⟨w.heap.size + 1, 1, none⟩ (.slice a1 x.values.length c1)).setCell ⟨w.heap.size + 1, 2, none⟩ (.slice a2 x.counts.length c2)).setCell ⟨w.heap.size + 1, 3, none⟩ (.int .i64 x.blanks)) :=
    (((((kept_setCell (by omega) (by omega) _).trans (kept_setCell (by omega) (by omega) _)).trans (kept_setCell (by omega) (by omega) _)).trans (kept_setCell (by omega) (by omega) _)).trans (kept_setCell (by omega) (by omega) _)).trans (kept_setCell (by omega) (by omega) _)
  have r0 := (Below.heap_setCell (w3.setCell ⟨w.heap.size + 1 + 1, 2, none⟩ (.slice a2 x.counts.length c2)) ⟨w.heap.size + 1 + 1, 3, none⟩ (.int .i64 x.blanks) (w.heap.size + 1) (by show w.heap.size + 1 ≠ w.heap.size + 1 + 1; omega)).trans ((Below.heap_setCell w3 ⟨w.heap.size + 1 + 1, 2, none⟩ (.slice a2 x.counts.length c2) (w.heap.size + 1) (by show w.heap.size + 1 ≠ w.heap.size + 1 + 1; omega)).trans K1.out)
  have r4 := setn (i := 3) (.int .i64 x.blanks) (setn (i := 2) (.slice a2 x.counts.length c2) (setn (i := 1) (.slice a1 x.values.length c1) (setn (i := 0) (.string x.letters) r0)))
  refine bodyPost_ret (v := .agg #[.string x.letters, .slice a1 x.values.length c1, .slice a2 x.counts.length c2, .int .i64 x.blanks]) (results_cell_row (p := 2) (ty := 36) rfl _ _ (w.heap.size + 1) _ _ _ _ rfl (by simpa using r4) Tryd.underlying36 rfl infoTil) rfl ⟨_, rfl, ⟨_, _, rfl, Hls.out, ?_, ?_, Hbl.out⟩, ?_⟩
  · exact ((Hv1.out).kept hk6 (.inr (by simp))).mono (by simp; omega) (by have := hk6.size; omega)
  · exact ((Hv2.out).kept hk6 (.inr (by omega))).mono (by omega) hk6.size
  · exact Hbb3.out.trans (hk6.below (by omega) Hbb3.out.size)
set_option maxHeartbeats 2000000 in
theorem eqTileSet_any (a b : Value) (x y : TileD) (w : World) (ha : TilR w a x) (hb : TilR w b y) :
    Calls Tryd.prog 22 #[a, b] w fun e w' => e = .returned (.bool (decide (x = y))) ∧ Below w.heap.size w w' := by
  obtain ⟨s1, s2, rfl, hls, h1, h2, hbl⟩ := ha
  obtain ⟨t1, t2, rfl, hlt, g1, g2, hbl2⟩ := hb
  have hb0 : Below w.heap.size w ((w.alloc (.cells #[.string x.letters, s1, s2, .int .i64 x.blanks] 36)).alloc (.cells #[.string y.letters, t1, t2, .int .i64 y.blanks] 36)) :=
    ((Below.refl _ _).alloc (Nat.le_refl _) _).alloc (by simp) _
  have eqx : decide (x = y) = (decide (x.letters = y.letters) && decide (x.values = y.values) && decide (x.counts = y.counts) && decide (x.blanks = y.blanks)) := by
    cases x; cases y; simp [Bool.and_assoc]
  clear hls hlt hbl hbl2
  cases hA : (x.letters.toList == y.letters.toList)
  · have HA := Lib.hid hA
    go_enter Tryd.func22, Tryd.ntmps22
    go_wp2
    go_ret
    exact ⟨ret_bool (by rw [eqx, decide_eq_false (bytes_ne_of HA.out)]; rfl), hb0⟩
  · have HA := Lib.hid hA
    go_enter Tryd.func22, Tryd.ntmps22
    go_wp2_with fail
    refine (eqInt64S_any _ _ x.values y.values _ (h1.below hb0) (g1.below hb0)).mono ?_
    have c02 := cell_alloc (.cells #[.string y.letters, t1, t2, .int .i64 y.blanks] 36) (cell_newi w #[.string x.letters, s1, s2, .int .i64 x.blanks] 36 2 s2 rfl)
    have c03 := cell_alloc (.cells #[.string y.letters, t1, t2, .int .i64 y.blanks] 36) (cell_newi w #[.string x.letters, s1, s2, .int .i64 x.blanks] 36 3 (.int .i64 x.blanks) rfl)
    have c12 := cell_newi (w.alloc (.cells #[.string x.letters, s1, s2, .int .i64 x.blanks] 36)) #[.string y.letters, t1, t2, .int .i64 y.blanks] 36 2 t2 rfl
    have c13 := cell_newi (w.alloc (.cells #[.string x.letters, s1, s2, .int .i64 x.blanks] 36)) #[.string y.letters, t1, t2, .int .i64 y.blanks] 36 3 (.int .i64 y.blanks) rfl
    rw [World.size_alloc] at c12 c13
    rintro e w1 ⟨rfl, hb1⟩
    have d02 := cell_below hb1 c02
    have d03 := cell_below hb1 c03
    have d12 := cell_below hb1 c12
    have d13 := cell_below hb1 c13
    have hbb := hb0.trans (hb1.mono hb0.size)
    clear c02 c03 c12 c13
    cases hB : decide (x.values = y.values)
    · have HB := Lib.hid hB
      go_wp2
      go_ret
      exact ⟨ret_bool (by rw [eqx, HB.out]; simp), hbb⟩
    · have HB := Lib.hid hB
      clear hB hb1
      go_wp2_with fail
      refine (eqInt64S_any _ _ x.counts y.counts _ (h2.below hbb) (g2.below hbb)).mono ?_
      rintro e w2 ⟨rfl, hb2⟩
      have d03 := cell_below hb2 d03
      have d13 := cell_below hb2 d13
      have hbb := hbb.trans (hb2.mono hbb.size)
      cases hC : decide (x.counts = y.counts)
      · have HC := Lib.hid hC
        go_wp2
        go_ret
        exact ⟨ret_bool (by rw [eqx, HC.out]; simp), hbb⟩
      · have HC := Lib.hid hC
        clear hC hb2
        by_cases hD : x.blanks = y.blanks
        · have hD2 : (x.blanks != y.blanks) = false := by simpa using hD
          have HD := Lib.hid hD
          clear hD
          go_wp2
          go_ret
          exact ⟨ret_bool (by rw [eqx, HB.out, HC.out, decide_eq_true (bytes_eq_of HA.out), decide_eq_true HD.out]; rfl), hbb⟩
        · have hD2 : (x.blanks != y.blanks) = true := by simpa using hD
          have HD := Lib.hid hD
          clear hD
          go_wp2
          go_ret
          exact ⟨ret_bool (by rw [eqx, decide_eq_false HD.out, Bool.and_false]), hbb⟩
end Go.Proofs.YtjgpcmjnmddbkaaDoor
