/- RemoveWord of both sides; slices.Clone and slices.Delete of words. Conditions: the readings; strings of at most 2^20 bytes. -/
import Derived.Test.YtlompohfibcjfaaLe
import Derived.Sort.OwnSorted
import Derived.Laws.ResultCell
import Derived.Laws.Rows
namespace Go.Proofs.Ytlompohfibcjfaa
open Go.RowKit
/-- A result in a cell and one in a slot. -/
theorem results_cell_row2 {P : Program} {fn : Func} {p u : Tmp} {ty : TypeId} (h : fn.results = #[.cell p ty, .tmp u]) (tmps : Array Value) (w : World) (g : Nat) (t : TypeId) (cs : Array Value) (fr : Nat × Nat) (d : TypeDesc)
    (hp : tmps.getD p undef = .pointer (some ⟨g, 0, none⟩)) (hg : w.heap[g]? = some (.cells cs t fr))
    (hu : P.underlying ty = some d) (hd : (match d with | .struct _ | .array _ _ => true | _ => false) = true) (hi : (P.info? ty).map (·.size) = some cs.size) :
    (results fn tmps).run P w = .ok (.tuple #[.agg cs, tmps.getD u undef]) w := by
  rw [results_cell_tmp h, hp]
  have hl := run_loadVar_row w g t ty cs fr d hg hu hd hi
  simp [asAddr, hl, Result.andThen]
/-- Is it another one? -/
def neP (p s : ByteArray) : Bool := !decide (s = p)
theorem neP_yes {p s : ByteArray} (h : s ≠ p) : neP p s = true := by simp [neP, h]
theorem neP_self (p : ByteArray) : neP p p = false := by simp [neP]
def remV (l : List ByteArray) (p : ByteArray) : List ByteArray := if lexB l then l.filter (neP p) else []
def remW (l : List ByteArray) (p : ByteArray) : List ByteArray := if lexB l && hasB l p then l.filter (neP p) else []
def remE (l : List ByteArray) (p : ByteArray) : Int := if lexB l then (if hasB l p then 0 else 3) else 1
theorem remW_no {l : List ByteArray} {p : ByteArray} (h : lexB l = false) : remW l p = [] ∧ remE l p = 1 := by simp [remW, remE, h]
theorem remW_not {l : List ByteArray} {p : ByteArray} (h : lexB l = true) (h2 : hasB l p = false) : remW l p = [] ∧ remE l p = 3 := by simp [remW, remE, h, h2]
theorem remW_yes {l : List ByteArray} {p : ByteArray} (h : lexB l = true) (h2 : hasB l p = true) : remW l p = l.filter (neP p) ∧ remE l p = 0 := by simp [remW, remE, h, h2]
theorem remW_len (l : List ByteArray) (p : ByteArray) (h : l.length ≤ 1048576) : (remW l p).length ≤ 1048576 := by
  unfold remW
  split
  · have := List.length_filter_le (neP p) l; omega
  · simp
theorem filter_erase {l : List ByteArray} {p : ByteArray} {k : Nat} (hk : k < l.length) (hp : l[k] = p) (ho : ∀ i, (h : i < l.length) → i ≠ k → l[i] ≠ p) : l.filter (neP p) = l.take k ++ l.drop (k + 1) := by
  have e : l = l.take k ++ l[k] :: l.drop (k + 1) := by rw [← List.drop_eq_getElem_cons hk, List.take_append_drop]
  have h1 : (l.take k).filter (neP p) = l.take k := by
    rw [List.filter_eq_self]
    intro s hs
    obtain ⟨i, hi, rfl⟩ := List.getElem_of_mem hs
    rw [List.length_take] at hi
    rw [List.getElem_take]
    exact neP_yes (ho i (by omega) (by omega))
  have h2 : (l.drop (k + 1)).filter (neP p) = l.drop (k + 1) := by
    rw [List.filter_eq_self]
    intro s hs
    obtain ⟨i, hi, rfl⟩ := List.getElem_of_mem hs
    rw [List.length_drop] at hi
    rw [List.getElem_drop]
    exact neP_yes (ho _ (by omega) (by omega))
  calc l.filter (neP p) = (l.take k ++ l[k] :: l.drop (k + 1)).filter (neP p) := by rw [← e]
    _ = _ := by rw [List.filter_append, List.filter_cons, h1, h2, hp, neP_self]; simp
theorem inc_ne {l : List ByteArray} (h : IncTo l l.length) (i j : Nat) (hi : i < l.length) (hj : j < l.length) (hne : i ≠ j) : l[i] ≠ l[j] := by
  intro e
  rcases Nat.lt_or_gt_of_ne hne with h1 | h1
  · have := inc_lt2 h i j h1 hj; rw [e, bl_irr] at this; cases this
  · have := inc_lt2 h j i h1 hi; rw [e, bl_irr] at this; cases this
theorem rem_is {l : List ByteArray} {p : ByteArray} (h : IncTo l l.length) (hb : hasB l p = true) : l.filter (neP p) = l.take (firstP (lessP p) l) ++ l.drop (firstP (lessP p) l + 1) := by
  obtain ⟨hk, e⟩ := hasB_at h hb
  exact filter_erase hk e fun i hi hne => by rw [← e]; exact inc_ne h _ _ hi hk hne
theorem OwnS.nil (w : World) (B : Nat) : OwnS w B (.slice none 0 0) [] := World.ownsRow_nil _ _ _ _
theorem OwnS.drewN {w : World} {B v l} (h : OwnS w B v l) (q : Nat) : OwnS (w.drewN q) B v l := h.below (below_drewN (Below.refl _ _) q)
theorem clone_any (v : Value) (l : List ByteArray) (w : World) (hv : Strs w v l) (hn : l.length ≤ 1048576) :
    Calls Try.prog 64 #[v] w fun e w' => ∃ v', e = .returned v' ∧ OwnS w' w.heap.size v' l ∧ Below w.heap.size w w' := by
  obtain ⟨a, c, rfl, hl, hc, hcs⟩ := hv.shape
  by_cases h0 : l.length = 0
  · obtain rfl : l = [] := List.eq_nil_of_length_eq_zero h0
    cases a with
    | none =>
      refine (Try.slices_Clone_string_nil _ c w).mono ?_
      rintro e w' ⟨rfl, rfl⟩
      exact ⟨_, rfl, OwnS.nil _ _, Below.refl _ _⟩
    | some a =>
      refine (Try.slices_Clone_string_zero a c w).mono ?_
      rintro e w' ⟨v', rfl, h1, -, h2⟩
      exact ⟨_, rfl, h1, h2⟩
  · obtain ⟨b, off, rfl, -, -⟩ := hcs 0 (by omega)
    refine (Try.slices_Clone_string b off l.length c l w (Nat.le_refl _) (by omega) ?_).mono ?_
    · intro j hj
      obtain ⟨b', off', e, hcell, -⟩ := hcs j hj
      cases e
      rw [hcell, List.getD_eq_getElem?_getD, List.getElem?_eq_getElem hj]; rfl
    · rintro e w' ⟨v', rfl, h1, -, h2⟩
      rw [List.take_length] at h1
      exact ⟨_, rfl, h1, h2⟩
theorem encs (l : List ByteArray) : (l.map fun s => s.data.toList).map encStr = l.map Value.string := by
  rw [List.map_map]; rfl
theorem delete_any (v : Value) (l : List ByteArray) (k : Nat) (z z2 : Int) (B : Nat) (w : World) (hv : OwnS w B v l) (hk : k < l.length) (hz : z = (k : Int)) (hz2 : z2 = ((k + 1 : Nat) : Int)) :
    Calls Try.prog 63 #[v, .int .i64 z, .int .i64 z2] w fun e w' => ∃ v', e = .returned v' ∧ SlW w' B w'.heap.size 9 1 v' (l.length - 1) ((l.take k ++ l.drop (k + 1)).map Value.string) ∧ Below B w w' := by
  subst hz
  subst hz2
  obtain ⟨-, hv⟩ := hv
  rcases hv with ⟨_, h0⟩ | ⟨g, cap, cur, rfl, hg, hh, h1, h2, h3, h4⟩
  · omega
  · have hgl := (Array.getElem?_eq_some_iff.1 hh).1
    have hzl : (l.map fun s => s.data.toList).length = l.length := by simp
    have ht : cur.toList.take (l.map fun s => s.data.toList).length = (l.map fun s => s.data.toList).map encStr := by rw [encs, hzl]; simpa using h4
    have hc := Try.slices_Delete_string g 0 cap k (k + 1) (l.map fun s => s.data.toList) w (holds_of_block hh ht) (by simpa using h1) (by unfold maxLen at h2; omega) (by omega) (by simp; omega)
    rw [hzl] at hc
    refine hc.mono ?_
    rintro e w' ⟨rfl, q, rfl⟩
    generalize hts : List.take k (l.map fun s => s.data.toList) ++ List.drop (k + 1) (l.map fun s => s.data.toList) ++ List.replicate (k + 1 - k) [] = ts
    have htl : ts.length = l.length := by rw [← hts]; simp; omega
    have hsz : cur.size = cap := by simpa using h3
    have hheap : (Sort.putRow encStr (Sort.ahead w q) g 0 ts.toArray).heap[g]? = some (.cells (Sort.putCells encStr 0 ts.toArray cur) 9 (0, 0)) := by
      simp [Sort.putRow, Sort.mapBlock, Sort.ahead, Array.getElem?_modify, hh, Sort.onCells]
    have hsize : (Sort.putRow encStr (Sort.ahead w q) g 0 ts.toArray).heap.size = w.heap.size := by simp [Sort.putRow, Sort.mapBlock, Sort.ahead]
    refine ⟨_, rfl, ⟨?_, _, _, ?_, ?_, h2, .inr ⟨g, 0, _, rfl, hg, by rw [hsize]; exact hgl, hheap, ?_, ?_⟩⟩, rfl, rfl, rfl, by rw [hsize]; exact Nat.le_refl _, ?_⟩
    · simp; omega
    · rw [show k + 1 - k = 1 by omega]
    · omega
    · simp [Sort.putCells, hsz]; omega
    · have h5 := take_putCells cur ts (by omega)
      have h6 := congrArg (List.take (l.length - 1)) h5
      rw [List.take_take, htl, Nat.min_eq_left (by omega)] at h6
      rw [List.drop_zero, Nat.mul_one, h6, ← hts, List.map_append (f := encStr), List.map_append (f := encStr), List.map_take, List.map_drop, encs, List.take_append_of_le_length (by simp; omega), List.take_of_length_le (by simp; omega), ← List.map_take, ← List.map_drop, ← List.map_append]
    · intro i hi
      have : g ≠ i := by omega
      simp [Sort.putRow, Sort.mapBlock, Sort.ahead, Array.getElem?_modify, this]
attribute [local irreducible] Calls
set_option maxHeartbeats 1000000 in
theorem l05Has_any (v : Value) (l : List ByteArray) (p : ByteArray) (w : World) (hv : Strs w v l) (hi : IncTo l l.length) (hn : l.length ≤ 1048576) :
    Calls Try.prog 60 #[v, .string p] w fun e w' => e = .returned (.bool (hasB l p)) ∧ Below w.heap.size w w' := by
  have HV := Lib.hid hv
  have HI := Lib.hid hi
  obtain ⟨a, c, rfl, hl, hc, hcs⟩ := hv.shape
  unfold maxLen at hc
  have hf := firstP_le (lessP p) l
  clear hv hi
  by_cases hlt : firstP (lessP p) l < l.length
  · obtain ⟨b1, o1, rfl, hc1, hs1⟩ := hcs _ hlt
    clear hcs
    cases hd : (l[firstP (lessP p) l].toList == p.toList)
    all_goals
      have Hd := Lib.hid hd
      go_enter Try.func60, Try.ntmps60
      go_wp2_with fail
      refine (l05First_any _ l p _ HV.out hn).mono ?_
      rintro e w1 ⟨rfl, hb1⟩
      have hw1 := (hb1.cell (p := ⟨b1, o1 + firstP (lessP p) l, none⟩) (cell_lt hc1)).trans hc1
      have HB := Lib.hid hb1
      clear hb1
      go_wp2
      go_ret
    · exact ⟨ret_bool (hasB_false HI.out fun _ => bytes_ne_of Hd.out), HB.out⟩
    · exact ⟨ret_bool (hasB_true HI.out hlt (bytes_eq_of Hd.out)), HB.out⟩
  · have hd0 : decide (((firstP (lessP p) l : Nat) : Int) < (l.length : Int)) = false := by rw [decide_eq_false_iff_not]; omega
    clear hcs
    go_enter Try.func60, Try.ntmps60
    go_wp2_with fail
    refine (l05First_any _ l p _ HV.out hn).mono ?_
    rintro e w1 ⟨rfl, hb1⟩
    go_wp2
    go_ret
    exact ⟨ret_bool (hasB_false HI.out fun h => absurd h hlt), hb1⟩
set_option maxHeartbeats 1000000 in
theorem l05Without_any (v : Value) (l : List ByteArray) (p : ByteArray) (w : World) (hv : Strs w v l) (hn : l.length ≤ 1048576) :
    Calls Try.prog 61 #[v, .string p] w fun e w' => ∃ v', e = .returned v' ∧ StrsW w' w.heap.size w'.heap.size v' (l.filter (neP p)) ∧ Below w.heap.size w w' := by
  obtain ⟨a, c, rfl, hl, hc, hcs⟩ := hv.shape
  unfold maxLen at hc
  have Hmax := Lib.hid hv.2
  clear hv
  go_enter Try.func61, Try.ntmps61
  go_wp2
  have hb0 : Below w.heap.size w (w.alloc (.cells #[] 9)) := (Below.refl _ _).alloc (Nat.le_refl _) _
  have hown0 := OwnS.made w w.heap.size (Nat.le_refl _)
  go_loopw [5, 6] (fun out i wr => ∃ j : Nat, j ≤ l.length ∧ i = .int .i64 (j : Int) ∧ OwnS wr w.heap.size out ((l.take j).filter (neP p)) ∧ Below w.heap.size w wr) (fun _ i _ => l.length - (intOf i).toNat)
  case atStart => exact ⟨0, by omega, rfl, by simpa using hown0, hb0⟩
  case round =>
    obtain ⟨j, hj, rfl, hown, hb⟩ := hrel
    clear hown0 hb0
    by_cases hlt : j < l.length
    · obtain ⟨b1, o1, rfl, hc1, hs1⟩ := hcs j hlt
      have hw1 : wr.cell? ⟨b1, o1 + j, none⟩ = some (.string l[j]) := (hb.cell (cell_lt hc1)).trans hc1
      clear hcs hc1
      have hlen : ((l.take j).filter (neP p)).length ≤ 1048576 := by have := List.length_filter_le (neP p) (l.take j); simp at this; omega
      have Htk := Lib.hid (filter_take (neP p) l j hlt)
      cases hd : (l[j].toList == p.toList)
      · have Hd := Lib.hid (neP_yes (bytes_ne_of hd))
        have hbs := hb.size
        have Hown := Lib.hid hown
        clear hown
        go_wp2_with (at_builtin; refine app_str rfl _ _ rfl w.heap.size _ _ rfl Hown.out l[j] rfl (by omega) hbs ?_; intro g cap w2 hown2 hbel2 _)
        go_roundw
        case rel => exact ⟨j + 1, by omega, by go_num, by rw [Htk.out, if_pos Hd.out]; simpa [OwnS] using hown2, hbel2 _ hb⟩
        case measure => simp [intOf]; omega
      · have Hd := Lib.hid (bytes_eq_of hd)
        go_wp2
        go_roundw
        case rel => exact ⟨j + 1, by omega, by go_num, by rw [Htk.out, if_neg (by rw [Hd.out, neP_self]; simp)]; simpa using hown, hb⟩
        case measure => simp [intOf]; omega
    · go_wp2
      go_ret
      obtain rfl : j = l.length := by omega
      rw [List.take_length] at hown
      exact ⟨_, rfl, hown.strs (fun s hs => Hmax.out s (List.mem_filter.1 hs).1), hb⟩
set_option maxHeartbeats 2000000 in
set_option maxRecDepth 20000 in
theorem specRemoveWord_any (v : Value) (l : List ByteArray) (p : ByteArray) (w : World) (hv : LexR w v l) (_hp : p.size ≤ 1048576) :
    Calls Try.prog 29 #[v, .string p] w fun e w' => ∃ v', e = .returned (.tuple #[v', .int .i64 (remE l p)]) ∧ LexW w' w.heap.size w'.heap.size v' (remW l p) ∧ Below w.heap.size w w' := by
  obtain ⟨s, rfl, hs⟩ := hv
  obtain ⟨a, c, rfl, -, -, -⟩ := hs.shape
  have hb0 : Below w.heap.size w ((w.alloc (.cells #[.slice a l.length c] 27)).alloc (.cells #[.slice none 0 0] 27)) := ((Below.refl _ _).alloc (Nat.le_refl _) _).alloc (by simp) _
  have hs0 := hs.below hb0
  have hc0 := cell_alloc (.cells #[.slice none 0 0] 27) (cell_newi w #[.slice a l.length c] 27 0 (.slice a l.length c) rfl)
  have hr0 : ((w.alloc (.cells #[.slice a l.length c] 27)).alloc (.cells #[.slice none 0 0] 27)).heap[w.heap.size + 1]? = some (.cells #[.slice none 0 0] 27 (0, 0)) := heap_alloc2_new w _ _
  have Hs := Lib.hid hs
  have Hr0 := Lib.hid hr0
  clear hs hr0
  cases hlex : lexB l
  · have H := Lib.hid hlex
    go_enter Try.func29, Try.ntmps29
    go_wp2_with fail
    refine (l05Ok_any w.heap.size _ l _ hc0 hs0).mono ?_
    rw [hlex]
    rintro e w1 ⟨rfl, q, hw1⟩
    have hb1 : Below ((w.alloc (.cells #[.slice a l.length c] 27)).alloc (.cells #[.slice none 0 0] 27)).heap.size ((w.alloc (.cells #[.slice a l.length c] 27)).alloc (.cells #[.slice none 0 0] 27)) w1 := by rw [hw1]; exact below_drewN (Below.refl _ _) _
    clear hw1
    have hk1 := (hb1.block (w.heap.size + 1) (by simp)).trans Hr0.out
    have d0 : w1.cell? ⟨w.heap.size + 1, 0, none⟩ = some (.slice none 0 0) := by simp [World.cell?, hk1]
    have f0 : w1.frozen? ⟨w.heap.size + 1, 0, none⟩ = false := by simp [World.frozen?, hk1]
    have HK := Lib.hid hk1
    have hc1 := cell_below hb1 hc0
    have hbb := hb0.trans (hb1.mono hb0.size)
    have HB := Lib.hid hbb
    have hsz : w.heap.size + 1 + 1 ≤ w1.heap.size := by have := hb1.size; simpa using this
    have HS1 := Lib.hid (Hs.out.below hbb)
    clear hk1 hb1 hb0 hs0 hc0 Hs Hr0 hbb
    clear hlex
    go_wp2
    have h1 := set1 (.slice none 0 0) HK.out
    refine bodyPost_ret (v := .tuple #[.agg #[.slice none 0 0], .int .i64 1]) (results_cell_row2 (p := 4) (u := 5) (ty := 27) rfl _ _ (w.heap.size + 1) _ _ _ _ rfl h1 Try.underlying27 rfl infoLex) rfl ⟨_, by rw [(remW_no (p := p) H.out).2], ⟨_, rfl, ?_⟩, HB.out.setCell (p := ⟨w.heap.size + 1, 0, none⟩) (by show _ ≤ w.heap.size + 1; omega) _⟩
    rw [(remW_no (p := p) H.out).1]
    exact strs_nil _ _ _
  · have H := Lib.hid hlex
    have hl200 := lexB_len hlex
    go_enter Try.func29, Try.ntmps29
    go_wp2_with fail
    refine (l05Ok_any w.heap.size _ l _ hc0 hs0).mono ?_
    rw [hlex]
    rintro e w1 ⟨rfl, q, hw1⟩
    have hb1 : Below ((w.alloc (.cells #[.slice a l.length c] 27)).alloc (.cells #[.slice none 0 0] 27)).heap.size ((w.alloc (.cells #[.slice a l.length c] 27)).alloc (.cells #[.slice none 0 0] 27)) w1 := by rw [hw1]; exact below_drewN (Below.refl _ _) _
    clear hw1
    have hk1 := (hb1.block (w.heap.size + 1) (by simp)).trans Hr0.out
    have d0 : w1.cell? ⟨w.heap.size + 1, 0, none⟩ = some (.slice none 0 0) := by simp [World.cell?, hk1]
    have f0 : w1.frozen? ⟨w.heap.size + 1, 0, none⟩ = false := by simp [World.frozen?, hk1]
    have HK := Lib.hid hk1
    have hc1 := cell_below hb1 hc0
    have hbb := hb0.trans (hb1.mono hb0.size)
    have HB := Lib.hid hbb
    have hsz : w.heap.size + 1 + 1 ≤ w1.heap.size := by have := hb1.size; simpa using this
    have HS1 := Lib.hid (Hs.out.below hbb)
    clear hk1 hb1 hb0 hs0 hc0 Hs Hr0 hbb
    clear hlex
    go_wp2_with fail
    refine (l05Has_any _ l p _ HS1.out (lexB_inc H.out) (by omega)).mono ?_
    cases hh : hasB l p
    all_goals
      have Hh := Lib.hid hh
      clear hh
      rintro e w2 ⟨rfl, hb2⟩
      have hk2 := (hb2.block (w.heap.size + 1) (by omega)).trans HK.out
      have d2 : w2.cell? ⟨w.heap.size + 1, 0, none⟩ = some (.slice none 0 0) := by simp [World.cell?, hk2]
      have f2 : w2.frozen? ⟨w.heap.size + 1, 0, none⟩ = false := by simp [World.frozen?, hk2]
      have HK2 := Lib.hid hk2
      have hc2 := cell_below hb2 hc1
      have HB2 := Lib.hid (HB.out.trans (hb2.mono HB.out.size))
      have hsz2 : w.heap.size + 1 + 1 ≤ w2.heap.size := Nat.le_trans hsz hb2.size
      have HS2 := Lib.hid (HS1.out.below hb2)
      clear hk2 hb2 HK hc1 HB hsz HS1 d0 f0
    · have hn : True := trivial
      go_wp2
      have h1 := set1 (.slice none 0 0) HK2.out
      refine bodyPost_ret (v := .tuple #[.agg #[.slice none 0 0], .int .i64 3]) (results_cell_row2 (p := 4) (u := 5) (ty := 27) rfl _ _ (w.heap.size + 1) _ _ _ _ rfl h1 Try.underlying27 rfl infoLex) rfl ⟨_, by rw [(remW_not H.out Hh.out).2], ⟨_, rfl, ?_⟩, HB2.out.setCell (p := ⟨w.heap.size + 1, 0, none⟩) (by show _ ≤ w.heap.size + 1; omega) _⟩
      rw [(remW_not H.out Hh.out).1]
      exact strs_nil _ _ _
    · go_wp2_with fail
      refine (l05Without_any _ l p _ HS2.out (by omega)).mono ?_
      rintro e w3 ⟨v3, rfl, hv3, hb3⟩
      obtain ⟨a3, c3, rfl, -, -, -⟩ := hv3.read.shape
      have hk3 := (hb3.block (w.heap.size + 1) (by omega)).trans HK2.out
      have d3 : w3.cell? ⟨w.heap.size + 1, 0, none⟩ = some (.slice none 0 0) := by simp [World.cell?, hk3]
      have f3 : w3.frozen? ⟨w.heap.size + 1, 0, none⟩ = false := by simp [World.frozen?, hk3]
      have HK3 := Lib.hid hk3
      have HB3 := Lib.hid (HB2.out.trans (hb3.mono HB2.out.size))
      have HV3 := Lib.hid hv3
      have hsz3 := hb3.size
      clear hk3 hb3 HK2 hc2 HB2 HS2 d2 f2 hv3
      go_wp2
      have h1 := set1 (.slice a3 (l.filter (neP p)).length c3) HK3.out
      refine bodyPost_ret (v := .tuple #[.agg #[.slice a3 (l.filter (neP p)).length c3], .int .i64 0]) (results_cell_row2 (p := 4) (u := 5) (ty := 27) rfl _ _ (w.heap.size + 1) _ _ _ _ rfl h1 Try.underlying27 rfl infoLex) rfl ⟨_, by rw [(remW_yes H.out Hh.out).2], ⟨_, rfl, ?_⟩, HB3.out.setCell (p := ⟨w.heap.size + 1, 0, none⟩) (by show _ ≤ w.heap.size + 1; omega) _⟩
      rw [(remW_yes H.out Hh.out).1]
      exact (HV3.out.kept (kept_setCell (Nat.le_refl _) (Nat.lt_succ_self _) _) (.inr (by omega))).mono (by omega) (by simp [World.setCell])
set_option maxHeartbeats 2000000 in
set_option maxRecDepth 20000 in
theorem implRemoveWord_any (v : Value) (l : List ByteArray) (p : ByteArray) (w : World) (hv : LexR w v l) (_hp : p.size ≤ 1048576) :
    Calls Try.prog 30 #[v, .string p] w fun e w' => ∃ v', e = .returned (.tuple #[v', .int .i64 (remE l p)]) ∧ LexW w' w.heap.size w'.heap.size v' (remW l p) ∧ Below w.heap.size w w' := by
  obtain ⟨s, rfl, hs⟩ := hv
  obtain ⟨a, c, rfl, -, -, -⟩ := hs.shape
  have hb0 : Below w.heap.size w ((w.alloc (.cells #[.slice a l.length c] 27)).alloc (.cells #[.slice none 0 0] 27)) := ((Below.refl _ _).alloc (Nat.le_refl _) _).alloc (by simp) _
  have hs0 := hs.below hb0
  have hc0 := cell_alloc (.cells #[.slice none 0 0] 27) (cell_newi w #[.slice a l.length c] 27 0 (.slice a l.length c) rfl)
  have hr0 : ((w.alloc (.cells #[.slice a l.length c] 27)).alloc (.cells #[.slice none 0 0] 27)).heap[w.heap.size + 1]? = some (.cells #[.slice none 0 0] 27 (0, 0)) := heap_alloc2_new w _ _
  have Hs := Lib.hid hs
  have Hr0 := Lib.hid hr0
  clear hs hr0
  cases hlex : lexB l
  · have H := Lib.hid hlex
    go_enter Try.func30, Try.ntmps30
    go_wp2_with fail
    refine (implValidLexicon_any _ l _ ⟨_, rfl, hs0⟩).mono ?_
    rw [hlex]
    rintro e w1 ⟨rfl, hb1⟩
    have hk1 := (hb1.block (w.heap.size + 1) (by simp)).trans Hr0.out
    have d0 : w1.cell? ⟨w.heap.size + 1, 0, none⟩ = some (.slice none 0 0) := by simp [World.cell?, hk1]
    have f0 : w1.frozen? ⟨w.heap.size + 1, 0, none⟩ = false := by simp [World.frozen?, hk1]
    have HK := Lib.hid hk1
    have hc1 := cell_below hb1 hc0
    have hbb := hb0.trans (hb1.mono hb0.size)
    have HB := Lib.hid hbb
    have hsz : w.heap.size + 1 + 1 ≤ w1.heap.size := by have := hb1.size; simpa using this
    have HS1 := Lib.hid (Hs.out.below hbb)
    clear hk1 hb1 hb0 hs0 hc0 Hs Hr0 hbb
    clear hlex
    go_wp2
    have h1 := set1 (.slice none 0 0) HK.out
    refine bodyPost_ret (v := .tuple #[.agg #[.slice none 0 0], .int .i64 1]) (results_cell_row2 (p := 4) (u := 5) (ty := 27) rfl _ _ (w.heap.size + 1) _ _ _ _ rfl h1 Try.underlying27 rfl infoLex) rfl ⟨_, by rw [(remW_no (p := p) H.out).2], ⟨_, rfl, ?_⟩, HB.out.setCell (p := ⟨w.heap.size + 1, 0, none⟩) (by show _ ≤ w.heap.size + 1; omega) _⟩
    rw [(remW_no (p := p) H.out).1]
    exact strs_nil _ _ _
  · have H := Lib.hid hlex
    have hl200 := lexB_len hlex
    go_enter Try.func30, Try.ntmps30
    go_wp2_with fail
    refine (implValidLexicon_any _ l _ ⟨_, rfl, hs0⟩).mono ?_
    rw [hlex]
    rintro e w1 ⟨rfl, hb1⟩
    have hk1 := (hb1.block (w.heap.size + 1) (by simp)).trans Hr0.out
    have d0 : w1.cell? ⟨w.heap.size + 1, 0, none⟩ = some (.slice none 0 0) := by simp [World.cell?, hk1]
    have f0 : w1.frozen? ⟨w.heap.size + 1, 0, none⟩ = false := by simp [World.frozen?, hk1]
    have HK := Lib.hid hk1
    have hc1 := cell_below hb1 hc0
    have hbb := hb0.trans (hb1.mono hb0.size)
    have HB := Lib.hid hbb
    have hsz : w.heap.size + 1 + 1 ≤ w1.heap.size := by have := hb1.size; simpa using this
    have HS1 := Lib.hid (Hs.out.below hbb)
    clear hk1 hb1 hb0 hs0 hc0 Hs Hr0 hbb
    clear hlex
    go_wp2_with fail
    refine (bs_any _ l p _ HS1.out (lexB_inc H.out) (by omega)).mono ?_
    cases hh : hasB l p
    all_goals
      have Hh := Lib.hid hh
      clear hh
      rintro e w2 ⟨rfl, q, hw2⟩
      have hb2 : Below w1.heap.size w1 w2 := by rw [hw2]; exact below_drewN (Below.refl _ _) _
      clear hw2
      have hk2 := (hb2.block (w.heap.size + 1) (by omega)).trans HK.out
      have d2 : w2.cell? ⟨w.heap.size + 1, 0, none⟩ = some (.slice none 0 0) := by simp [World.cell?, hk2]
      have f2 : w2.frozen? ⟨w.heap.size + 1, 0, none⟩ = false := by simp [World.frozen?, hk2]
      have HK2 := Lib.hid hk2
      have hc2 := cell_below hb2 hc1
      have HB2 := Lib.hid (HB.out.trans (hb2.mono HB.out.size))
      have hsz2 : w.heap.size + 1 + 1 ≤ w2.heap.size := Nat.le_trans hsz hb2.size
      have HS2 := Lib.hid (HS1.out.below hb2)
      clear hk2 hb2 HK hc1 HB hsz HS1 d0 f0
    · have hn : True := trivial
      go_wp2
      have h1 := set1 (.slice none 0 0) HK2.out
      refine bodyPost_ret (v := .tuple #[.agg #[.slice none 0 0], .int .i64 3]) (results_cell_row2 (p := 4) (u := 5) (ty := 27) rfl _ _ (w.heap.size + 1) _ _ _ _ rfl h1 Try.underlying27 rfl infoLex) rfl ⟨_, by rw [(remW_not H.out Hh.out).2], ⟨_, rfl, ?_⟩, HB2.out.setCell (p := ⟨w.heap.size + 1, 0, none⟩) (by show _ ≤ w.heap.size + 1; omega) _⟩
      rw [(remW_not H.out Hh.out).1]
      exact strs_nil _ _ _
    · obtain ⟨hk, -⟩ := hasB_at (lexB_inc H.out) Hh.out
      have Hmax := Lib.hid HS2.out.2
      have Hrem := Lib.hid (rem_is (lexB_inc H.out) Hh.out)
      go_wp2_with fail
      refine (clone_any _ l _ HS2.out (by omega)).mono ?_
      rintro e w3 ⟨v3, rfl, hv3, hb3⟩
      have hk3 := (hb3.block (w.heap.size + 1) (by omega)).trans HK2.out
      have hsz3 := hb3.size
      have HB3 := Lib.hid (HB2.out.trans (hb3.mono HB2.out.size))
      have HK3 := Lib.hid hk3
      have HV3 := Lib.hid hv3
      clear hk3 hb3 HK2 hc2 HB2 HS2 d2 f2 hv3
      go_wp2_with fail
      refine (delete_any _ l (firstP (lessP p) l) _ _ w2.heap.size _ HV3.out hk rfl (by omega)).mono ?_
      rintro e w4 ⟨v4, rfl, hv4, hb4⟩
      have hk4 := (hb4.block (w.heap.size + 1) (by omega)).trans HK3.out
      have d4 : w4.cell? ⟨w.heap.size + 1, 0, none⟩ = some (.slice none 0 0) := by simp [World.cell?, hk4]
      have f4 : w4.frozen? ⟨w.heap.size + 1, 0, none⟩ = false := by simp [World.frozen?, hk4]
      have hsz4 := hb4.size
      have HK4 := Lib.hid hk4
      have HB4 := Lib.hid (HB3.out.trans (hb4.mono (by omega)))
      have hv5 : StrsW w4 w2.heap.size w4.heap.size v4 (l.filter (neP p)) := by
        refine ⟨?_, fun s hs => Hmax.out s (List.mem_filter.1 hs).1⟩
        rw [Hrem.out]
        have e : (l.take (firstP (lessP p) l) ++ l.drop (firstP (lessP p) l + 1)).length = l.length - 1 := by simp; omega
        rw [e]
        exact hv4
      obtain ⟨a4, c4, rfl, -, -, -⟩ := hv5.read.shape
      have HV5 := Lib.hid hv5
      clear hk4 hb4 HK3 HB3 HV3 hv4 hv5
      go_wp2
      have h1 := set1 (.slice a4 (l.filter (neP p)).length c4) HK4.out
      refine bodyPost_ret (v := .tuple #[.agg #[.slice a4 (l.filter (neP p)).length c4], .int .i64 0]) (results_cell_row2 (p := 4) (u := 5) (ty := 27) rfl _ _ (w.heap.size + 1) _ _ _ _ rfl h1 Try.underlying27 rfl infoLex) rfl ⟨_, by rw [(remW_yes H.out Hh.out).2], ⟨_, rfl, ?_⟩, HB4.out.setCell (p := ⟨w.heap.size + 1, 0, none⟩) (by show _ ≤ w.heap.size + 1; omega) _⟩
      rw [(remW_yes H.out Hh.out).1]
      exact (HV5.out.kept (kept_setCell (Nat.le_refl _) (Nat.lt_succ_self _) _) (.inr (by omega))).mono (by omega) (by simp [World.setCell])
end Go.Proofs.Ytlompohfibcjfaa
