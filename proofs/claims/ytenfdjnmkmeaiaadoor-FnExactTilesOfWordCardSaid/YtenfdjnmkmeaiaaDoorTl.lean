/- TilesOfWord of the reference and of the program. strings.ToLower's contract asks the tables of unicode and utf8: Tables3. -/
import Derived.Test.YtenfdjnmkmeaiaaDoorTlP
import Derived.Test.YtenfdjnmkmeaiaaDoorC
import Derived.Test.YtenfdjnmkmeaiaaDoorT
import Derived.Test.YtenfdjnmkmeaiaaDoorFd
import Derived.Lib.LaidCase
import Derived.Lib.LaidU8
namespace Go.Proofs.YtenfdjnmkmeaiaaDoor
open Go.RowKit

/-- The three tables lie as their initialisers lay them. -/
def Tables3 (w : World) : Prop := Lib.CaseVar (Tryd.lays159_ren.g 13) Go.Lib.caseA w ∧ Lib.Utf8Tabs (Tryd.lays159_ren.g 3) (Tryd.lays159_ren.g 4) w
theorem Tables3.below {w w' : World} (h : Tables3 w) (hb : Below w.heap.size w w') : Tables3 w' := by
  refine ⟨Lib.CaseVar_below h.1 hb, fun c hc => ?_, fun i hi => ?_⟩
  · have := h.2.1 c hc
    exact (hb.cell (World.block_lt_of_cell? _ _ this)).trans this
  · have := h.2.2 i hi
    exact ⟨(hb.cell (World.block_lt_of_cell? _ _ this.1)).trans this.1, (hb.cell (World.block_lt_of_cell? _ _ this.2)).trans this.2⟩
theorem toLower_any (s : ByteArray) (w : World) (hs : s.size ≤ 1048576) (hT : Tables3 w) :
    Calls Tryd.prog 15 #[.string s] w fun e w' => e = .returned (.string ⟨(Go.Lib.toLowerD s.data.toList).toArray⟩) ∧ Below w.heap.size w w' :=
  Tryd.strings_ToLower_any s w (by omega) hT.1 hT.2

/-- A row of bytes made by '[]byte(s)'. -/
def RowB (w : World) (g : Nat) (l : List UInt8) : Prop := ∃ cur : Array Value, w.heap[g]? = some (.cells cur 5 (cur.size, cur.size + 1)) ∧ ∀ (j : Nat) (x : UInt8), l[j]? = some x → cur[j]? = some (Value.int .u8 x.toNat)
theorem RowB.at {w : World} {g : Nat} {l : List UInt8} (h : RowB w g l) (j : Nat) (x : UInt8) (hx : l[j]? = some x) : w.cell? ⟨g, j, none⟩ = some (.int .u8 x.toNat) := by
  obtain ⟨cur, h1, h2⟩ := h
  simp [World.cell?, h1, h2 j x hx]
theorem RowB.free {w : World} {g : Nat} {l : List UInt8} (h : RowB w g l) (j : Nat) (hj : j < l.length) : w.frozen? ⟨g, j, none⟩ = false := by
  obtain ⟨cur, h1, h2⟩ := h
  have := (Array.getElem?_eq_some_iff.1 (h2 j _ (List.getElem?_eq_getElem hj))).1
  simp [World.frozen?, h1]; omega
theorem RowB.set {w : World} {g : Nat} {l : List UInt8} (h : RowB w g l) (j : Nat) (x : UInt8) : RowB (w.setCell ⟨g, j, none⟩ (.int .u8 x.toNat)) g (l.set j x) := by
  obtain ⟨cur, h1, h2⟩ := h
  refine ⟨cur.setIfInBounds j (.int .u8 x.toNat), ?_, fun i y hy => ?_⟩
  · simp [World.setCell, Array.getElem?_modify, h1]
  · rw [List.getElem?_set] at hy
    rw [Array.getElem?_setIfInBounds]
    by_cases hij : j = i
    · subst hij
      rw [if_pos rfl] at hy
      split at hy
      · rename_i hlt
        cases hy
        have := (Array.getElem?_eq_some_iff.1 (h2 j _ (List.getElem?_eq_getElem hlt))).1
        simp [this]
      · cases hy
    · rw [if_neg hij] at hy ⊢
      exact h2 i y hy
theorem RowB.drewN {w : World} {g : Nat} {l : List UInt8} (h : RowB w g l) (m : Nat) : RowB (w.drewN m) g l := h
theorem RowB.conv {w : World} {g cap : Nat} {l : List UInt8} (h : RowB w g l) : (convert 26 9 (.slice (some ⟨g, 0, none⟩) l.length cap)).run Tryd.prog w = .ok (.string ⟨l.toArray⟩) w := by
  refine run_convert_bytes_back w _ _ 5 ⟨g, 0, none⟩ cap l Tryd.underlying26 Tryd.underlying5 Tryd.underlying9 ?_
  intro j hj
  have := h.at j _ (List.getElem?_eq_getElem hj)
  have e : (⟨g, 0, none⟩ : Addr).add j = ⟨g, j, none⟩ := by unfold Addr.add; split <;> simp_all
  rw [e]; exact this
theorem RowB.fresh (w : World) (s : ByteArray) (cap : Nat) : ∃ W0, W0 = (w.alloc (.cells (bytesRow s cap) 5 ((bytesRow s cap).size, (bytesRow s cap).size + 1))).drew ∧ Below w.heap.size w W0 ∧ RowB W0 w.heap.size s.data.toList :=
  ⟨_, rfl, ((Below.refl _ _).alloc (Nat.le_refl _) _).drew, bytesRow s cap, by
    show (w.heap.push _)[w.heap.size]? = _
    simp, fun j x hx => by
    have hj : j < s.size := by have := (List.getElem?_eq_some_iff.1 hx).1; simpa using this
    have := bytesRow_at s cap j hj
    rw [this]
    have e : s.data.toList[j]? = some s[j] := Lib.data_getElem? s j hj
    rw [e] at hx
    cases hx; rfl⟩

/-- The tiles of a text up to a byte, the rest as it was. -/
def tilesTo (l : List UInt8) (k : Nat) : List UInt8 := (l.take k).map tileOf ++ l.drop k
theorem tilesTo_len (l : List UInt8) (k : Nat) : (tilesTo l k).length = l.length := by simp [tilesTo]; omega
theorem tilesTo_all (l : List UInt8) : tilesTo l l.length = l.map tileOf := by simp [tilesTo]
theorem tilesTo_zero (l : List UInt8) : tilesTo l 0 = l := by simp [tilesTo]
theorem tilesTo_at (l : List UInt8) (k : Nat) (h : k < l.length) : (tilesTo l k)[k]? = some l[k] := by
  unfold tilesTo
  rw [List.getElem?_append_right (by simp; omega)]
  simp [Nat.min_eq_left (Nat.le_of_lt h), h]
theorem tilesTo_succ (l : List UInt8) (k : Nat) (h : k < l.length) : tilesTo l (k + 1) = (tilesTo l k).set k (tileOf l[k]) := by
  unfold tilesTo
  have hl : ((l.take k).map tileOf).length = k := by simp; omega
  rw [List.set_append_right _ _ (by omega), hl, Nat.sub_self, List.drop_eq_getElem_cons h, List.set_cons_zero, List.take_succ_eq_append_getElem h, List.map_append, List.append_assoc]
  rfl
theorem tilesTo_same (l : List UInt8) (k : Nat) (h : k < l.length) (hc : capI l[k].toNat = false) : tilesTo l (k + 1) = tilesTo l k := by
  have e : tileOf l[k] = l[k] := by simp [tileOf, hc]
  rw [tilesTo_succ l k h, e]
  refine List.ext_getElem? fun i => ?_
  rw [List.getElem?_set]
  split
  · rename_i hki
    subst hki
    rw [tilesTo_len, if_pos h, tilesTo_at l k h]
  · rfl

theorem ba_list (s : ByteArray) (k : Nat) (h : k < s.size) : s.data.toList[k]? = some s[k] := Lib.data_getElem? s k h

set_option maxHeartbeats 2000000 in
theorem l03Tiles_any (s : ByteArray) (w : World) (hs : s.size ≤ 1048576) (ht : plcAll s.data.toList = true) :
    Calls Tryd.prog 7 #[.string s] w fun e w' => e = .returned (.string ⟨(plcTiles s.data.toList).toArray⟩) ∧ Below w.heap.size w w' := by
  have Ht := Lib.hid (tiles_all ht); clear ht
  have hcv := run_bytes_of_string (P := Tryd.prog) w 9 26 5 s Tryd.underlying9 Tryd.underlying26 Tryd.underlying5
  have hlen : s.data.toList.length = s.size := by simp
  go_enter Tryd.func7, Tryd.ntmps7
  go_wp2
  obtain ⟨W0, hW, hb0, hrow⟩ := RowB.fresh w s (grownCap w s.size 0 5)
  rw [← hW]
  clear hW hcv
  generalize grownCap w s.size 0 5 = cap
  go_loopw [4] (fun i wr => ∃ k : Nat, k ≤ s.size ∧ i = .int .i64 k ∧ RowB wr w.heap.size (tilesTo s.data.toList k) ∧ Below w.heap.size w wr) (fun i _ => s.size - (intOf i).toNat)
  case atStart => exact ⟨0, Nat.zero_le _, rfl, by rw [tilesTo_zero]; exact hrow, hb0⟩
  case round =>
    obtain ⟨k, hk, rfl, hr, hb⟩ := hrel
    by_cases hlt : k < s.size
    · have hl : k < s.data.toList.length := by omega
      have hx : s.data.toList[k] = s[k] := rfl
      have hc := hr.at k _ (tilesTo_at _ k hl)
      have hf := hr.free k (by rw [tilesTo_len]; exact hl)
      rw [hx] at hc
      have Hr := Lib.hid hr; clear hr
      cases hcap : capI s[k].toNat
      · go_wp2_with (go_at_call 11; refine (l03Capital_any _ _).mono ?_; rintro e w' ⟨rfl, rfl⟩)
        go_roundw
        case rel => exact ⟨k + 1, by omega, by go_num, by rw [tilesTo_same _ k hl hcap]; exact Hr.out, hb⟩
        case measure => simp [intOf]; omega
      · go_wp2_with (go_at_call 11; refine (l03Capital_any _ _).mono ?_; rintro e w' ⟨rfl, rfl⟩)
        go_roundw
        case rel =>
          have hset := Hr.out.set k (tileOf s[k])
          rw [← hx, ← tilesTo_succ _ k hl, hx, show tileOf s[k] = 63 by simp [tileOf, hcap]] at hset
          exact ⟨k + 1, by omega, by go_num, hset, hb.setCell (p := ⟨w.heap.size, k, none⟩) (by simp) _⟩
        case measure => simp [intOf]; omega
    · obtain rfl : k = s.size := by omega
      have hr' : RowB wr w.heap.size (s.data.toList.map tileOf) := by rw [← tilesTo_all, hlen]; exact hr
      have hcv := hr'.conv (cap := cap)
      rw [List.length_map, hlen] at hcv
      clear hr hr'
      go_wp2_with (go_at_call 13; refine (l03Sort_any ⟨(s.data.toList.map tileOf).toArray⟩ _ (by show (List.map tileOf s.data.toList).toArray.size ≤ _; rw [List.size_toArray, List.length_map, hlen]; exact hs) Ht.out).mono ?_; rintro e w' ⟨rfl, hb'⟩)
      go_ret
      exact ⟨rfl, hb.trans (hb'.mono hb.size)⟩

set_option maxHeartbeats 400000 in
theorem tilesOf_any (s : ByteArray) (w : World) (hs : s.size ≤ 1048576) (ht : plcAll s.data.toList = true) :
    Calls Tryd.prog 9 #[.string s] w fun e w' => e = .returned (.string ⟨(plcTiles s.data.toList).toArray⟩) ∧ Below w.heap.size w w' := by
  have Ht := Lib.hid ht; clear ht
  obtain ⟨M, hM⟩ : ∃ M, M = s.data.toList.map tileOf := ⟨_, rfl⟩
  have hMl : M.length = s.size := by rw [hM]; simp
  have HMs : Hid (∀ k (h : k < s.size), M.take (k + 1) = M.take k ++ [tileOf s[k]]) := Lib.hid fun k h => by rw [hM, ← List.map_take, take_snoc s k h, List.map_append, List.map_singleton, List.map_take]
  have HM := Lib.hid hM; clear hM
  go_enter Tryd.func9, Tryd.ntmps9
  go_wp2
  rw [← cs_zero]
  go_loopw [4] (fun i wr => ∃ k : Nat, k ≤ s.size ∧ i = .int .i64 k ∧ wr.heap[w.heap.size]? = some (.cells (cs (cntOf (M.take k))) 28 (0, 0)) ∧ Below w.heap.size w wr) (fun i _ => s.size - (intOf i).toNat)
  case atStart => exact ⟨0, Nat.zero_le _, rfl, by rw [List.take_zero, cntOf_nil]; exact heap_alloc_new w _, (Below.refl _ _).alloc (Nat.le_refl _) _⟩
  case round =>
    obtain ⟨k, hk, rfl, h1, hb⟩ := hrel
    by_cases hlt : k < s.size
    · have hp0 : plcI s[k].toNat = true := all_get (f := fun c => plcI c.toNat) Ht.out k hlt
      obtain ⟨p, hp, hp27⟩ := placeI_nat (tileOf_tile hp0)
      have hle := cntOf_le (M.take k) p
      have hlen : (M.take k).length ≤ k := List.length_take_le _ _
      obtain ⟨hle1, hle2⟩ := hle
      have hcell : wr.cell? ⟨w.heap.size, p, none⟩ = some (.int .i64 (cntOf (M.take k) p)) := by
        rw [cell_of_row wr _ p _ _ _ h1, cs_get _ p hp27]
      have hfr : wr.frozen? ⟨w.heap.size, p, none⟩ = false := frozen_of_row wr _ p _ _ h1
      have Hp := Lib.hid hp; clear hp
      cases hcap : capI s[k].toNat
      · have hto : tileOf s[k] = s[k] := by simp [tileOf, hcap]
        go_wp2_with (first
          | (go_at_call 16; refine (capital_any _ _).mono ?_; rintro e w' ⟨rfl, rfl⟩)
          | (go_at_call 17; refine (place_any _ _ (byte_range _).1 (byte_range _).2).mono ?_; rintro e w' ⟨rfl, rfl⟩; rw [← hto, Hp.out]))
        go_roundw
        case rel => exact ⟨k + 1, by omega, by go_num, by rw [heap_setCell_same _ _ _ _ _ _ h1, cs_set _ _ _ hp27, HMs.out k hlt, cntOf_snoc _ _ p Hp.out], hb.setCell (p := ⟨w.heap.size, p, none⟩) (by simp) _⟩
        case measure => simp [intOf]; omega
      · have hto : tileOf s[k] = 63 := by simp [tileOf, hcap]
        obtain rfl : p = 0 := by
          have := Hp.out
          rw [hto] at this
          have e : placeI ((63 : UInt8).toNat : Int) = 0 := by decide
          omega
        go_wp2_with (go_at_call 16; refine (capital_any _ _).mono ?_; rintro e w' ⟨rfl, rfl⟩)
        go_roundw
        case rel => exact ⟨k + 1, by omega, by go_num, by rw [heap_setCell_same _ _ _ _ _ _ h1, cs_set _ _ _ hp27, HMs.out k hlt, cntOf_snoc _ _ 0 Hp.out], hb.setCell (p := ⟨w.heap.size, 0, none⟩) (by simp) _⟩
        case measure => simp [intOf]; omega
    · obtain rfl : k = s.size := by omega
      rw [← hMl, List.take_length] at h1
      have hf : ∀ j, j < 27 → cntOf M j ≤ 2097152 := fun j _ => by
        have := (cntOf_le M j).2
        omega
      have Hf := Lib.hid hf; clear hf
      go_wp2_with (first
        | (refine wpList_load_row rfl 28 _ rfl w.heap.size rfl _ _ _ _ h1 Tryd.underlying28 rfl (by rw [cs_size]; exact infoCounts) ?_)
        | (go_at_call 18; refine (pile_any _ _ Hf.out).mono ?_; rintro e w' ⟨rfl, hb'⟩))
      go_ret
      exact ⟨ret_str (by rw [plcTiles, HM.out]), hb.trans (hb'.mono hb.size)⟩

theorem l03Placed_any (s : ByteArray) (w : World) (hs : s.size ≤ 1048576) :
    Calls Tryd.prog 6 #[.string s] w fun e w' => e = .returned (.bool (isPlc s)) ∧ w = w' := by
  go_enter Tryd.func6, Tryd.ntmps6
  go_wp2
  go_loop [3] (fun i => ∃ k : Nat, k ≤ s.size ∧ i = .int .i64 k ∧ plcAll (s.data.toList.take k) = true) (fun i => s.size - (intOf i).toNat)
  case atStart => exact ⟨0, Nat.zero_le _, rfl, rfl⟩
  case round =>
    obtain ⟨k, hk, rfl, hall⟩ := hrel
    have Hall := Lib.hid hall; clear hall
    by_cases hlt : k < s.size
    · cases hsm : smallI s[k].toNat <;> cases hcp : capI s[k].toNat
      · go_wp2_with (first
          | (go_at_call 10; refine (l01Small_any _ _).mono ?_; rintro e w' ⟨rfl, rfl⟩)
          | (go_at_call 11; refine (l03Capital_any _ _).mono ?_; rintro e w' ⟨rfl, rfl⟩))
        go_ret
        exact ⟨ret_bool (by rw [isPlc, plcAll, all_of_take _ s k hlt (by simp [plcI, hsm, hcp])]; rfl), rfl⟩
      all_goals
        have hpl : plcI s[k].toNat = true := by simp [plcI, hsm, hcp]
        have Hpl := Lib.hid hpl; clear hpl
        go_wp2_with (first
          | (go_at_call 10; refine (l01Small_any _ _).mono ?_; rintro e w' ⟨rfl, rfl⟩)
          | (go_at_call 11; refine (l03Capital_any _ _).mono ?_; rintro e w' ⟨rfl, rfl⟩))
        go_round
        case rel => exact ⟨k + 1, by omega, by go_num, by unfold plcAll; rw [all_take_succ _ s k hlt]; show (plcAll _ && plcI _) = true; rw [Hall.out, Hpl.out]; rfl⟩
        case measure => simp [intOf]; omega
    · obtain rfl : k = s.size := by omega
      go_wp2_with (go_at_call 12; refine (l00In_any _ _ _ _).mono ?_; rintro e w' ⟨rfl, rfl⟩)
      go_ret
      have h := Hall.out
      rw [take_all] at h
      exact ⟨ret_bool (by rw [isPlc, h]; rfl), rfl⟩

theorem isPlaced_any (s : ByteArray) (w : World) (hs : s.size ≤ 1048576) (hT : Tables3 w) :
    Calls Tryd.prog 8 #[.string s] w fun e w' => e = .returned (.bool (isPlc s)) ∧ Below w.heap.size w w' := by
  have HT := Lib.hid hT; clear hT
  have hq := placed_eq s
  have hl4 := lower_len4 s.data.toList
  have hc : ∀ w1, Tables3 w1 → _ := fun w1 h => toLower_any s w1 hs h
  have hll : (ByteArray.mk (Go.Lib.toLowerD s.data.toList).toArray).size = (Go.Lib.toLowerD s.data.toList).length := by simp [ByteArray.size]
  have hsl : s.data.toList.length = s.size := by simp
  rw [← hll] at hq hl4
  rw [hsl] at hl4
  clear hll hsl
  generalize (ByteArray.mk (Go.Lib.toLowerD s.data.toList).toArray) = t at hq hl4 hc
  have hlen : t.size ≤ maxLen := by unfold maxLen; omega
  cases hw : isWord t
  · go_enter Tryd.func8, Tryd.ntmps8
    go_wp2_with (first
      | (go_at_call 15; refine (hc w HT.out).mono ?_; rintro e w1 ⟨rfl, hb1⟩)
      | (go_at_call 14; refine (implIsWord_any t _ hlen).mono ?_; rintro e w2 ⟨rfl, hb2⟩; rw [hw]))
    go_ret
    exact ⟨ret_bool (by rw [← hq, hw]; rfl), hb1.trans (hb2.mono hb1.size)⟩
  · by_cases hE : s.size = t.size
    · have hE' : ((s.size : Int) == (t.size : Int)) = true := by simp; omega
      go_enter Tryd.func8, Tryd.ntmps8
      go_wp2_with (first
        | (go_at_call 15; refine (hc w HT.out).mono ?_; rintro e w1 ⟨rfl, hb1⟩)
        | (go_at_call 14; refine (implIsWord_any t _ hlen).mono ?_; rintro e w2 ⟨rfl, hb2⟩; rw [hw])
        | (go_at_call 15; refine (hc w2 (HT.out.below (hb1.trans (hb2.mono hb1.size)))).mono ?_; rintro e w3 ⟨rfl, hb3⟩))
      go_ret
      exact ⟨ret_bool (by rw [← hq, hw]; simp [hE]), (hb1.trans (hb2.mono hb1.size)).trans (hb3.mono (hb1.trans (hb2.mono hb1.size)).size)⟩
    · have hE' : ((s.size : Int) == (t.size : Int)) = false := by simp; omega
      go_enter Tryd.func8, Tryd.ntmps8
      go_wp2_with (first
        | (go_at_call 15; refine (hc w HT.out).mono ?_; rintro e w1 ⟨rfl, hb1⟩)
        | (go_at_call 14; refine (implIsWord_any t _ hlen).mono ?_; rintro e w2 ⟨rfl, hb2⟩; rw [hw])
        | (go_at_call 15; refine (hc w2 (HT.out.below (hb1.trans (hb2.mono hb1.size)))).mono ?_; rintro e w3 ⟨rfl, hb3⟩))
      go_ret
      exact ⟨ret_bool (by rw [← hq, hw]; simp [hE]), (hb1.trans (hb2.mono hb1.size)).trans (hb3.mono (hb1.trans (hb2.mono hb1.size)).size)⟩

theorem plcV_eq (s : ByteArray) (h : isPlc s = true) : plcV s = ⟨(plcTiles s.data.toList).toArray⟩ := by rw [plcV, if_pos h]
theorem plcV_no (s : ByteArray) (h : isPlc s = false) : plcV s = ByteArray.empty := by rw [plcV, if_neg (by simp [h])]
theorem isPlc_all {s : ByteArray} (h : isPlc s = true) : plcAll s.data.toList = true := by simp [isPlc] at h; exact h.1

theorem specTilesOfWord_any (s : ByteArray) (w : World) (hs : s.size ≤ 1048576) :
    Calls Tryd.prog 4 #[.string s] w fun e w' => e = .returned (.string (plcV s)) ∧ Below w.heap.size w w' := by
  cases hp : isPlc s
  · go_enter Tryd.func4, Tryd.ntmps4
    go_wp2_with (go_at_call 6; refine (l03Placed_any s _ hs).mono ?_; rintro e w1 ⟨rfl, rfl⟩; rw [hp])
    go_ret
    exact ⟨ret_str (plcV_no s hp).symm, Below.refl _ _⟩
  · have Hal := Lib.hid (isPlc_all hp)
    go_enter Tryd.func4, Tryd.ntmps4
    go_wp2_with (first
      | (go_at_call 6; refine (l03Placed_any s _ hs).mono ?_; rintro e w1 ⟨rfl, rfl⟩; rw [hp])
      | (go_at_call 7; refine (l03Tiles_any s _ hs Hal.out).mono ?_; rintro e w1 ⟨rfl, hb⟩))
    go_ret
    exact ⟨ret_str (plcV_eq s hp).symm, hb⟩
theorem implTilesOfWord_any (s : ByteArray) (w : World) (hs : s.size ≤ 1048576) (hT : Tables3 w) :
    Calls Tryd.prog 5 #[.string s] w fun e w' => e = .returned (.string (plcV s)) ∧ Below w.heap.size w w' := by
  have HT := Lib.hid hT; clear hT
  cases hp : isPlc s
  · go_enter Tryd.func5, Tryd.ntmps5
    go_wp2_with (go_at_call 8; refine (isPlaced_any s _ hs HT.out).mono ?_; rintro e w1 ⟨rfl, hb1⟩; rw [hp])
    go_ret
    exact ⟨ret_str (plcV_no s hp).symm, hb1⟩
  · have Hal := Lib.hid (isPlc_all hp)
    go_enter Tryd.func5, Tryd.ntmps5
    go_wp2_with (first
      | (go_at_call 8; refine (isPlaced_any s _ hs HT.out).mono ?_; rintro e w1 ⟨rfl, hb1⟩; rw [hp])
      | (go_at_call 9; refine (tilesOf_any s _ hs Hal.out).mono ?_; rintro e w2 ⟨rfl, hb2⟩))
    go_ret
    exact ⟨ret_str (plcV_eq s hp).symm, hb1.trans (hb2.mono hb1.size)⟩
end Go.Proofs.YtenfdjnmkmeaiaaDoor
