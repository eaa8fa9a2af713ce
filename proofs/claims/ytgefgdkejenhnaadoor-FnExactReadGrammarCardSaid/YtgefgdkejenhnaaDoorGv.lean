/- Grammars as arguments: toGrammar and its parts. No condition but the readings. -/
import Derived.Test.YtgefgdkejenhnaaDoorGu
namespace Go.Proofs.YtgefgdkejenhnaaDoor
open Go.RowKit
def nilA : AffD := ⟨⟨#[]⟩, false, ⟨#[]⟩, ⟨#[]⟩, ⟨#[]⟩⟩
def fillTo {α : Type} (z : α) (l : List α) (j : Nat) : List α := l.take j ++ List.replicate (l.length - j) z
theorem fillTo_length {α : Type} (z : α) (l : List α) (j : Nat) (h : j ≤ l.length) : (fillTo z l j).length = l.length := by simp [fillTo]; omega
theorem fillTo_all {α : Type} (z : α) (l : List α) : fillTo z l l.length = l := by simp [fillTo]
theorem fillTo_zero {α : Type} (z : α) (l : List α) : fillTo z l 0 = List.replicate l.length z := by simp [fillTo]
theorem fillTo_get {α : Type} (z : α) (l : List α) (j : Nat) (h : j < l.length) (h' : j < (fillTo z l j).length) : (fillTo z l j)[j] = z := by
  have : (fillTo z l j)[j]? = some z := by
    unfold fillTo
    rw [List.getElem?_append_right (by simp; omega), List.getElem?_replicate, if_pos (by simp; omega)]
  exact (List.getElem?_eq_some_iff.1 this).2
theorem fillTo_succ {α : Type} (z : α) (l : List α) (j : Nat) (h : j < l.length) : (fillTo z l j).set j l[j] = fillTo z l (j + 1) := by
  unfold fillTo
  rw [List.set_append_right _ _ (by simp; omega), List.take_succ_eq_append_getElem h, List.append_assoc]
  congr 1
  obtain ⟨n, hn⟩ : ∃ n, l.length - j = n + 1 := ⟨l.length - j - 1, by omega⟩
  rw [hn, show l.length - (j + 1) = n by omega, List.replicate_succ]
  simp [Nat.min_eq_left (Nat.le_of_lt h)]
theorem flat_setAt {α β : Type} (f : α → List β) (L : List α) (j : Nat) (hj : j < L.length) (x : α) : (L.set j x).flatMap f = (L.take j).flatMap f ++ f x ++ (L.drop (j + 1)).flatMap f := by
  have h1 : (L.set j x).take j = L.take j := by
    apply List.ext_getElem?
    intro i
    rw [List.getElem?_take, List.getElem?_take, List.getElem?_set]
    by_cases h : i < j
    · rw [if_pos h, if_pos h, if_neg (by omega)]
    · rw [if_neg h, if_neg h]
  have h2 : (L.set j x).drop (j + 1) = L.drop (j + 1) := by
    apply List.ext_getElem?
    intro i
    rw [List.getElem?_drop, List.getElem?_drop, List.getElem?_set, if_neg (by omega)]
  rw [flat_split f (L.set j x) j (by simpa using hj), h1, h2, List.getElem_set_self]
theorem mid_set0 {β : Type} (A B C : List β) (hB : 0 < B.length) (u : β) : (A ++ B ++ C).set A.length u = A ++ B.set 0 u ++ C := by
  have := mid_set A B C 0 hB u; rwa [Nat.add_zero] at this
theorem flat_set5 (L : List AffD) (j : Nat) (hj : j < L.length) (x : AffD) :
    (((((L.flatMap affL).set (j * 5) (.string x.name)).set (j * 5 + 1) (.bool x.front)).set (j * 5 + 2) (.string x.cond)).set (j * 5 + 3) (.string x.strip)).set (j * 5 + 4) (.string x.add) = (L.set j x).flatMap affL := by
  have hA : ((L.take j).flatMap affL).length = j * 5 := by rw [flat_len affL 5 affL_len, List.length_take, Nat.min_eq_left (Nat.le_of_lt hj)]
  rw [flat_split affL L j hj, flat_setAt affL L j hj x, ← hA]
  rw [mid_set0 _ _ _ (by simp [affL]), mid_set _ _ _ 1 (by simp [affL]), mid_set _ _ _ 2 (by simp [affL]), mid_set _ _ _ 3 (by simp [affL]), mid_set _ _ _ 4 (by simp [affL])]
  rfl
theorem flat_set2 (L : List (StemD × Value)) (j : Nat) (hj : j < L.length) (x : StemD × Value) :
    ((L.flatMap stemL).set (j * 2) (.string x.1.word)).set (j * 2 + 1) x.2 = (L.set j x).flatMap stemL := by
  have hA : ((L.take j).flatMap stemL).length = j * 2 := by rw [flat_len stemL 2 stemL_len, List.length_take, Nat.min_eq_left (Nat.le_of_lt hj)]
  rw [flat_split stemL L j hj, flat_setAt stemL L j hj x, ← hA]
  rw [mid_set0 _ _ _ (by simp [stemL]), mid_set _ _ _ 1 (by simp [stemL])]
  rfl
attribute [local irreducible] Calls
theorem infoAffZ : (Tryd.prog.info? 64).map (fun i => (i.zero, i.size, i.bytes)) = some (some (.agg (affL nilA).toArray), 5, 72) := by kernel_rfl
theorem make_affs (n : Nat) (hn : n ≤ 1048576) (w : World) :
    (Instr.makeSlice 28 (.int .i64 (n : Int)) (.int .i64 (n : Int))).run Tryd.prog w = .ok (.slice (some ⟨w.heap.size, 0, none⟩) n n) (w.alloc (.cells (madeCells (affL nilA).toArray (n * 5)) 64)) := by
  obtain ⟨i, hi, hzz⟩ := Option.map_eq_some_iff.1 infoAffZ
  simp only [Prod.mk.injEq] at hzz
  obtain ⟨hz, hs, hb⟩ := hzz
  have := run_make w 28 64 i (.agg (affL nilA).toArray) Tryd.underlying28 hi hz .i64 .i64 (n : Int) (n : Int) (by omega) (by omega) (by rw [hb]; omega) (by omega)
  rw [hs] at this
  simpa [Value.cells] using this
set_option maxHeartbeats 4000000 in
set_option maxRecDepth 20000 in
theorem toAffixS_any (v : Value) (l : List AffD) (w : World) (hv : Affs w v l) (hn : l.length ≤ 1048576) (hlim : ∀ x ∈ l, AffLim x 1048576) :
    Calls Tryd.prog 32 #[v] w fun e w' => ∃ s, e = .returned s ∧ AffsW w' w.heap.size w'.heap.size s l ∧ Below w.heap.size w w' := by
  obtain ⟨a, c, rfl, hl, hc, hcs⟩ := hv.shape
  have Hlim := Lib.hid hlim
  have Hall := Lib.hid hv.2
  unfold maxLen at hc
  clear hv hlim
  have hmk := make_affs l.length hn
  have hw0 : SlW (w.alloc (.cells (madeCells (affL nilA).toArray (l.length * 5)) 64)) w.heap.size (w.heap.size + 1) 64 5 (.slice (some ⟨w.heap.size, 0, none⟩) l.length l.length) l.length ((fillTo nilA l 0).flatMap affL) := by
    have hrow := toList_made (affL nilA).toArray l.length (by simp [affL])
    have hsz : (affL nilA).toArray.size = 5 := rfl
    rw [hsz] at hrow
    refine ⟨by rw [flat_len affL 5 affL_len, fillTo_length _ _ _ (Nat.zero_le _)], _, _, rfl, Nat.le_refl _, by unfold maxLen; omega, .inr ⟨w.heap.size, 0, _, rfl, Nat.le_refl _, Nat.lt_succ_self _, heap_alloc_new w _, by rw [size_madeCells]; omega, ?_⟩⟩
    rw [List.drop_zero, List.take_of_length_le (by rw [Array.length_toList, size_madeCells]; exact Nat.le_refl _), hrow, fillTo_zero, List.flatMap_def, List.map_replicate]
  have HW0 := Lib.hid hw0
  have HB0 := Lib.hid ((Below.refl w.heap.size w).alloc (Nat.le_refl _) (.cells (madeCells (affL nilA).toArray (l.length * 5)) 64))
  clear hw0
  go_enter Tryd.func32, Tryd.ntmps32
  go_wp2
  clear hmk
  go_loopw [4] (fun i wr => ∃ j : Nat, j ≤ l.length ∧ i = .int .i64 j ∧ Hid (SlW wr w.heap.size (w.heap.size + 1) 64 5 (.slice (some ⟨w.heap.size, 0, none⟩) l.length l.length) l.length ((fillTo nilA l j).flatMap affL)) ∧ Hid (Below w.heap.size w wr) ∧ w.heap.size + 1 ≤ wr.heap.size) (fun i _ => l.length - (intOf i).toNat)
  case atStart => exact ⟨0, Nat.zero_le _, rfl, HW0, HB0, by simp⟩
  case round =>
    obtain ⟨j, hj, rfl, HW, HB, hsz⟩ := hrel
    by_cases hlt : j < l.length
    · obtain ⟨b, off, rfl, k0, k1, k2, k3, k4, hl4⟩ := hcs j hlt
      have d0 := cell_below HB.out k0
      have d1 := cell_below HB.out k1
      have d2 := cell_below HB.out k2
      have d3 := cell_below HB.out k3
      have d4 := cell_below HB.out k4
      have Hcs := Lib.hid hcs
      have hltI : (j : Int) < (l.length : Int) := by omega
      clear hcs k0 k1 k2 k3 k4
      go_wp2_with fail
      refine (toAffix_any _ l[j] _ ⟨rfl, hl4⟩ (Hlim.out _ (List.getElem_mem _))).mono ?_
      rintro e w2 ⟨s, rfl, hsw, hb2⟩
      obtain rfl := hsw.1
      have HB2 := Lib.hid (HB.out.trans (hb2.mono HB.out.size))
      have hz2 := hb2.size
      have hw2 := HW.out.below hb2
      have HW2 := Lib.hid hw2
      have hfl := fillTo_length nilA l j hj
      obtain ⟨e0, z0, -, -⟩ := hw2.at (j := j * 5) (by omega)
      have E0 : w2.cell? ⟨w.heap.size, j * 5, none⟩ = some (.string ⟨#[]⟩) := by
        rw [Nat.zero_add] at e0
        rw [e0]
        skip
        rw [show j * 5 = j * 5 + 0 from rfl, flat_get affL 5 affL_len _ j (by rw [hfl]; exact hlt) 0 (by omega), fillTo_get nilA l j hlt]
        rfl
      have Z0 : w2.frozen? ⟨w.heap.size, j * 5, none⟩ = false := by rw [Nat.zero_add] at z0; exact z0
      have t0 := hw2.setC (j := j * 5) (by omega) (.string l[j].name)
      rw [Nat.zero_add] at t0
      clear e0 z0
      obtain ⟨e1, z1, -, -⟩ := t0.at (j := j * 5 + 1) (by omega)
      have E1 : (w2.setCell ⟨w.heap.size, j * 5, none⟩ (.string l[j].name)).cell? ⟨w.heap.size, j * 5 + 1, none⟩ = some (.bool false) := by
        rw [Nat.zero_add] at e1
        rw [e1]
        rw [List.getElem?_set_ne (by omega)]
        rw [flat_get affL 5 affL_len _ j (by rw [hfl]; exact hlt) 1 (by omega), fillTo_get nilA l j hlt]
        rfl
      have Z1 : (w2.setCell ⟨w.heap.size, j * 5, none⟩ (.string l[j].name)).frozen? ⟨w.heap.size, j * 5 + 1, none⟩ = false := by rw [Nat.zero_add] at z1; exact z1
      have t1 := t0.setC (j := j * 5 + 1) (by omega) (.bool l[j].front)
      rw [Nat.zero_add] at t1
      clear e1 z1
      obtain ⟨e2, z2, -, -⟩ := t1.at (j := j * 5 + 2) (by omega)
      have E2 : ((w2.setCell ⟨w.heap.size, j * 5, none⟩ (.string l[j].name)).setCell ⟨w.heap.size, j * 5 + 1, none⟩ (.bool l[j].front)).cell? ⟨w.heap.size, j * 5 + 2, none⟩ = some (.string ⟨#[]⟩) := by
        rw [Nat.zero_add] at e2
        rw [e2]
        rw [List.getElem?_set_ne (by omega), List.getElem?_set_ne (by omega)]
        rw [flat_get affL 5 affL_len _ j (by rw [hfl]; exact hlt) 2 (by omega), fillTo_get nilA l j hlt]
        rfl
      have Z2 : ((w2.setCell ⟨w.heap.size, j * 5, none⟩ (.string l[j].name)).setCell ⟨w.heap.size, j * 5 + 1, none⟩ (.bool l[j].front)).frozen? ⟨w.heap.size, j * 5 + 2, none⟩ = false := by rw [Nat.zero_add] at z2; exact z2
      have t2 := t1.setC (j := j * 5 + 2) (by omega) (.string l[j].cond)
      rw [Nat.zero_add] at t2
      clear e2 z2
      obtain ⟨e3, z3, -, -⟩ := t2.at (j := j * 5 + 3) (by omega)
      have E3 : (((w2.setCell ⟨w.heap.size, j * 5, none⟩ (.string l[j].name)).setCell ⟨w.heap.size, j * 5 + 1, none⟩ (.bool l[j].front)).setCell ⟨w.heap.size, j * 5 + 2, none⟩ (.string l[j].cond)).cell? ⟨w.heap.size, j * 5 + 3, none⟩ = some (.string ⟨#[]⟩) := by
        rw [Nat.zero_add] at e3
        rw [e3]
        rw [List.getElem?_set_ne (by omega), List.getElem?_set_ne (by omega), List.getElem?_set_ne (by omega)]
        rw [flat_get affL 5 affL_len _ j (by rw [hfl]; exact hlt) 3 (by omega), fillTo_get nilA l j hlt]
        rfl
      have Z3 : (((w2.setCell ⟨w.heap.size, j * 5, none⟩ (.string l[j].name)).setCell ⟨w.heap.size, j * 5 + 1, none⟩ (.bool l[j].front)).setCell ⟨w.heap.size, j * 5 + 2, none⟩ (.string l[j].cond)).frozen? ⟨w.heap.size, j * 5 + 3, none⟩ = false := by rw [Nat.zero_add] at z3; exact z3
      have t3 := t2.setC (j := j * 5 + 3) (by omega) (.string l[j].strip)
      rw [Nat.zero_add] at t3
      clear e3 z3
      obtain ⟨e4, z4, -, -⟩ := t3.at (j := j * 5 + 4) (by omega)
      have E4 : ((((w2.setCell ⟨w.heap.size, j * 5, none⟩ (.string l[j].name)).setCell ⟨w.heap.size, j * 5 + 1, none⟩ (.bool l[j].front)).setCell ⟨w.heap.size, j * 5 + 2, none⟩ (.string l[j].cond)).setCell ⟨w.heap.size, j * 5 + 3, none⟩ (.string l[j].strip)).cell? ⟨w.heap.size, j * 5 + 4, none⟩ = some (.string ⟨#[]⟩) := by
        rw [Nat.zero_add] at e4
        rw [e4]
        rw [List.getElem?_set_ne (by omega), List.getElem?_set_ne (by omega), List.getElem?_set_ne (by omega), List.getElem?_set_ne (by omega)]
        rw [flat_get affL 5 affL_len _ j (by rw [hfl]; exact hlt) 4 (by omega), fillTo_get nilA l j hlt]
        rfl
      have Z4 : ((((w2.setCell ⟨w.heap.size, j * 5, none⟩ (.string l[j].name)).setCell ⟨w.heap.size, j * 5 + 1, none⟩ (.bool l[j].front)).setCell ⟨w.heap.size, j * 5 + 2, none⟩ (.string l[j].cond)).setCell ⟨w.heap.size, j * 5 + 3, none⟩ (.string l[j].strip)).frozen? ⟨w.heap.size, j * 5 + 4, none⟩ = false := by rw [Nat.zero_add] at z4; exact z4
      have t4 := t3.setC (j := j * 5 + 4) (by omega) (.string l[j].add)
      rw [Nat.zero_add] at t4
      clear e4 z4
      rw [flat_set5 _ j (by rw [hfl]; exact hlt), fillTo_succ nilA l j hlt] at t4
      have HST := Lib.hid t4
      clear t0 t1 t2 t3 t4
      clear hb2 hw2 d0 d1 d2 d3 d4 hsw
      go_wp2
      have HKB := Lib.hid (((((kept_setCell (w := w2) (lo := w.heap.size) (hi := w.heap.size + 1) (o := j * 5) (Nat.le_refl _) (Nat.lt_succ_self _) (.string l[j].name)).trans (kept_setCell (o := j * 5 + 1) (Nat.le_refl _) (Nat.lt_succ_self _) (.bool l[j].front))).trans (kept_setCell (o := j * 5 + 2) (Nat.le_refl _) (Nat.lt_succ_self _) (.string l[j].cond))).trans (kept_setCell (o := j * 5 + 3) (Nat.le_refl _) (Nat.lt_succ_self _) (.string l[j].strip))).trans (kept_setCell (o := j * 5 + 4) (Nat.le_refl _) (Nat.lt_succ_self _) (.string l[j].add)))
      go_roundw
      case rel => exact ⟨j + 1, by omega, by go_num, HST, Lib.hid (HB2.out.trans (HKB.out.below (Nat.le_refl _) HB2.out.size)), by have := HKB.out.size; omega⟩
      case measure => simp [intOf]; omega
    · go_wp2
      go_ret
      obtain rfl : j = l.length := by omega
      have hw := HW.out
      rw [fillTo_all] at hw
      exact ⟨_, rfl, ⟨hw.mono (Nat.le_refl _) hsz, Hall.out⟩, HB.out⟩
theorem infoStem : (Tryd.prog.info? 67).map (·.size) = some 2 := by kernel_rfl
theorem store2 {w : World} {g : Nat} {x0 x1 : Value} {t : TypeId} {fr : Nat × Nat} (h : w.heap[g]? = some (.cells #[x0, x1] t fr)) (a b : Value) :
    ((w.setCell ⟨g, 0, none⟩ a).setCell ⟨g, 1, none⟩ b).heap[g]? = some (.cells #[a, b] t fr) ∧ Kept g (g + 1) w ((w.setCell ⟨g, 0, none⟩ a).setCell ⟨g, 1, none⟩ b) ∧ ((w.setCell ⟨g, 0, none⟩ a).setCell ⟨g, 1, none⟩ b).heap.size = w.heap.size := by
  refine ⟨?_, (kept_setCell (Nat.le_refl _) (Nat.lt_succ_self _) _).trans (kept_setCell (Nat.le_refl _) (Nat.lt_succ_self _) _), by simp [World.setCell]⟩
  simp [World.setCell, Array.getElem?_modify, h]
theorem cell_of_heap {w : World} {g i : Nat} {cs : Array Value} {t : TypeId} {v : Value} (h : w.heap[g]? = some (.cells cs t (0, 0))) (hv : cs[i]? = some v) : w.cell? ⟨g, i, none⟩ = some v ∧ w.frozen? ⟨g, i, none⟩ = false := by
  exact ⟨by simp [World.cell?, h, hv], by simp [World.frozen?, h]⟩
theorem set_heap {w : World} {g i : Nat} {cs : Array Value} {t : TypeId} {fr : Nat × Nat} (y : Value) (h : w.heap[g]? = some (.cells cs t fr)) : (w.setCell ⟨g, i, none⟩ y).heap[g]? = some (.cells (cs.setIfInBounds i y) t fr) := by
  simp [World.setCell, Array.getElem?_modify, h]
set_option maxHeartbeats 4000000 in
set_option maxRecDepth 20000 in
theorem toStem_any (x : StemD) (u : Value) (w : World) (hu : Strs w u x.uses) (hn : x.uses.length ≤ 1048576) :
    Calls Tryd.prog 74 #[.agg #[.string x.word, u]] w fun e w' => ∃ u', e = .returned (.agg #[.string x.word, u']) ∧ StrsW w' w.heap.size w'.heap.size u' x.uses ∧ Below w.heap.size w w' := by
  have hb0 : Below w.heap.size w (((w.alloc (.cells #[.string x.word, u] 106)).alloc (.cells #[.string ⟨#[]⟩, .slice none 0 0] 67)).alloc (.cells #[.string x.word, .slice none 0 0] 67)) := (((Below.refl _ _).alloc (Nat.le_refl _) _).alloc (by simp) _).alloc (by simp; omega) _
  have r1 := heap3_1 w (.cells #[.string x.word, u] 106) (.cells #[.string ⟨#[]⟩, .slice none 0 0] 67) (.cells #[.string x.word, .slice none 0 0] 67)
  have r2 := heap3_2 w (.cells #[.string x.word, u] 106) (.cells #[.string ⟨#[]⟩, .slice none 0 0] 67) (.cells #[.string x.word, .slice none 0 0] 67)
  have HB0 := Lib.hid hb0
  go_enter Tryd.func74, Tryd.ntmps74
  go_wp2_with fail
  refine (toStringS_any u x.uses _ (hu.below hb0) hn).mono ?_
  rintro e w1 ⟨u', rfl, hu', hb1⟩
  obtain ⟨ua, uc, rfl, -, -, -⟩ := hu'.read.shape
  have hz1 : w.heap.size + 3 ≤ w1.heap.size := by have := hb1.size; simpa using this
  have R1 := Lib.hid ((hb1.block (w.heap.size + 1) (by simp)).trans r1)
  have R2 := Lib.hid ((hb1.block (w.heap.size + 1 + 1) (by simp)).trans r2)
  have HB1 := Lib.hid (HB0.out.trans (hb1.mono HB0.out.size))
  have HU := Lib.hid (hu'.mono (lo' := w.heap.size + 3) (hi' := w1.heap.size) (by simp) (Nat.le_refl _))
  obtain ⟨d0, y0⟩ := cell_of_heap (i := 0) (v := .string x.word) R2.out rfl
  obtain ⟨d1, y1⟩ := cell_of_heap (i := 1) (v := .slice none 0 0) R2.out rfl
  obtain ⟨e0, z0⟩ := cell_of_heap (i := 0) (v := .string ⟨#[]⟩) R1.out rfl
  obtain ⟨e1, z1⟩ := cell_of_heap (i := 1) (v := .slice none 0 0) R1.out rfl
  have n1 : ¬ (w.heap.size + 1 = w.heap.size + 1 + 1) := by omega
  have n2 : ¬ (w.heap.size + 1 + 1 = w.heap.size + 1) := by omega
  clear hb1 hu' r1 r2 hb0
  go_wp2
  have hk3 : Kept (w.heap.size + 1 + 1) (w.heap.size + 1 + 1 + 1) w1 (w1.setCell ⟨w.heap.size + 1 + 1, 1, none⟩ (.slice ua x.uses.length uc)) := kept_setCell (Nat.le_refl _) (Nat.lt_succ_self _) _
  have st := store2 ((hk3.block (w.heap.size + 1) (by omega) (.inl (by omega))).trans R1.out) (.string x.word) (.slice ua x.uses.length uc)
  refine bodyPost_ret (v := .agg #[.string x.word, (.slice ua x.uses.length uc)]) (results_cell_row (p := 2) (ty := 67) rfl _ _ (w.heap.size + 1) _ _ _ _ rfl st.1 Tryd.underlying67 rfl infoStem) rfl
    ⟨.slice ua x.uses.length uc, rfl, ((HU.out.kept hk3 (.inr (by omega))).kept st.2.1 (.inr (by omega))).mono (by omega) (by rw [st.2.2]; exact hk3.size), (HB1.out.trans (hk3.below (by omega) HB1.out.size)).trans (st.2.1.below (by omega) (by have := HB1.out.size; have := hk3.size; omega))⟩
def nilS : StemD × Value := (⟨⟨#[]⟩, []⟩, .slice none 0 0)
theorem infoStemZ : (Tryd.prog.info? 67).map (fun i => (i.zero, i.size, i.bytes)) = some (some (.agg (stemL nilS).toArray), 2, 40) := by kernel_rfl
theorem make_stems (n : Nat) (hn : n ≤ 1048576) (w : World) :
    (Instr.makeSlice 29 (.int .i64 (n : Int)) (.int .i64 (n : Int))).run Tryd.prog w = .ok (.slice (some ⟨w.heap.size, 0, none⟩) n n) (w.alloc (.cells (madeCells (stemL nilS).toArray (n * 2)) 67)) := by
  obtain ⟨i, hi, hzz⟩ := Option.map_eq_some_iff.1 infoStemZ
  simp only [Prod.mk.injEq] at hzz
  obtain ⟨hz, hs, hb⟩ := hzz
  have := run_make w 29 67 i (.agg (stemL nilS).toArray) Tryd.underlying29 hi hz .i64 .i64 (n : Int) (n : Int) (by omega) (by omega) (by rw [hb]; omega) (by omega)
  rw [hs] at this
  simpa [Value.cells] using this
/-- The pairs so far. -/
def pairsTo (l : List StemD) (us : List Value) : List (StemD × Value) := (l.take us.length).zip us ++ List.replicate (l.length - us.length) nilS
theorem pairsTo_length (l : List StemD) (us : List Value) (h : us.length ≤ l.length) : (pairsTo l us).length = l.length := by simp [pairsTo]; omega
theorem pairsTo_get (l : List StemD) (us : List Value) (h : us.length < l.length) (h' : us.length < (pairsTo l us).length) : (pairsTo l us)[us.length] = nilS := by
  have : (pairsTo l us)[us.length]? = some nilS := by
    unfold pairsTo
    rw [List.getElem?_append_right (by simp; omega), List.getElem?_replicate, if_pos (by simp; omega)]
  exact (List.getElem?_eq_some_iff.1 this).2
theorem pairsTo_succ (l : List StemD) (us : List Value) (u : Value) (h : us.length < l.length) : (pairsTo l us).set us.length (l[us.length], u) = pairsTo l (us ++ [u]) := by
  unfold pairsTo
  have hz : ((l.take us.length).zip us).length = us.length := by simp; omega
  rw [List.set_append_right _ _ (by omega), hz, Nat.sub_self, List.length_append, List.length_singleton, List.take_succ_eq_append_getElem h]
  obtain ⟨n, hn⟩ : ∃ n, l.length - us.length = n + 1 := ⟨l.length - us.length - 1, by omega⟩
  rw [hn, show l.length - (us.length + 1) = n by omega, List.replicate_succ, List.set_cons_zero]
  rw [List.zip_append (by simp; omega)]
  simp
set_option maxHeartbeats 4000000 in
set_option maxRecDepth 20000 in
theorem toStemS_any (v : Value) (l : List StemD) (w : World) (hv : Stems w v l) (hn : l.length ≤ 1048576) (hlim : ∀ x ∈ l, x.uses.length ≤ 1048576) :
    Calls Tryd.prog 33 #[v] w fun e w' => ∃ s, e = .returned s ∧ StemsW w' w.heap.size w'.heap.size s l ∧ Below w.heap.size w w' := by
  obtain ⟨a, c, rfl, hl, hc, hcs⟩ := hv.shape
  have Hlim := Lib.hid hlim
  unfold maxLen at hc
  have Hwl := Lib.hid (fun j (h : j < l.length) => by obtain ⟨_, _, _, _, _, _, h5, _⟩ := hcs j h; exact h5 : ∀ j (h : j < l.length), l[j].word.size ≤ maxLen)
  clear hv hlim
  have hmk := make_stems l.length hn
  have hw0 : SlW (w.alloc (.cells (madeCells (stemL nilS).toArray (l.length * 2)) 67)) w.heap.size (w.heap.size + 1) 67 2 (.slice (some ⟨w.heap.size, 0, none⟩) l.length l.length) l.length ((pairsTo l []).flatMap stemL) := by
    have hrow := toList_made (stemL nilS).toArray l.length (by simp [stemL])
    have hsz : (stemL nilS).toArray.size = 2 := rfl
    rw [hsz] at hrow
    refine ⟨by rw [flat_len stemL 2 stemL_len, pairsTo_length _ _ (Nat.zero_le _)], _, _, rfl, Nat.le_refl _, by unfold maxLen; omega, .inr ⟨w.heap.size, 0, _, rfl, Nat.le_refl _, Nat.lt_succ_self _, heap_alloc_new w _, by rw [size_madeCells]; omega, ?_⟩⟩
    rw [List.drop_zero, List.take_of_length_le (by rw [Array.length_toList, size_madeCells]; exact Nat.le_refl _), hrow]
    simp [pairsTo, List.flatMap_def, List.map_replicate]
  have HW0 := Lib.hid hw0
  have HB0 := Lib.hid ((Below.refl w.heap.size w).alloc (Nat.le_refl _) (.cells (madeCells (stemL nilS).toArray (l.length * 2)) 67))
  clear hw0
  go_enter Tryd.func33, Tryd.ntmps33
  go_wp2
  clear hmk
  go_loopw [4] (fun i wr => ∃ us : List Value, us.length ≤ l.length ∧ i = .int .i64 (us.length : Int) ∧ Hid (SlW wr w.heap.size (w.heap.size + 1) 67 2 (.slice (some ⟨w.heap.size, 0, none⟩) l.length l.length) l.length ((pairsTo l us).flatMap stemL)) ∧ Hid (Below w.heap.size w wr) ∧ w.heap.size + 1 ≤ wr.heap.size ∧
    Hid (∀ j (h : j < us.length) (h' : j < l.length), StrsW wr (w.heap.size + 1) wr.heap.size us[j] l[j].uses)) (fun i _ => l.length - (intOf i).toNat)
  case atStart => exact ⟨[], Nat.zero_le _, rfl, HW0, HB0, by simp, Lib.hid (fun j h => by simp at h)⟩
  case round =>
    obtain ⟨us, hj, rfl, HW, HB, hsz, HUS⟩ := hrel
    by_cases hlt : us.length < l.length
    · obtain ⟨j, hjd⟩ : ∃ j, j = us.length := ⟨_, rfl⟩
      rw [← hjd] at hlt hj ⊢
      have HJ := Lib.hid hjd
      obtain ⟨b, off, u, rfl, k0, k1, -, hu⟩ := hcs j hlt
      have d0 := cell_below HB.out k0
      have d1 := cell_below HB.out k1
      have Hu := Lib.hid (hu.below HB.out)
      have Hcs := Lib.hid hcs
      have hltI : (j : Int) < (l.length : Int) := by omega
      clear hcs k0 k1 hu hjd
      go_wp2_with fail
      refine (toStem_any l[j] u _ Hu.out (Hlim.out _ (List.getElem_mem _))).mono ?_
      rintro e w2 ⟨u', rfl, hu', hb2⟩
      obtain ⟨ua, uc, rfl, -, -, -⟩ := hu'.read.shape
      have HB2 := Lib.hid (HB.out.trans (hb2.mono HB.out.size))
      have hz2 := hb2.size
      have hw2 := HW.out.below hb2
      have HUQ := Lib.hid hu'
      have HUS2 := Lib.hid (fun j h h' => (HUS.out j h h').below hb2)
      have hfl := pairsTo_length l us (by have := HJ.out; omega)
      have hpg : ∀ h, (pairsTo l us)[j]'h = nilS := by
        have := HJ.out
        subst this
        exact fun h => pairsTo_get l us hlt h
      obtain ⟨e0, z0, -, -⟩ := hw2.at (j := j * 2) (by omega)
      have E0 : w2.cell? ⟨w.heap.size, j * 2, none⟩ = some (.string ⟨#[]⟩) := by
        rw [Nat.zero_add] at e0
        rw [e0, show j * 2 = j * 2 + 0 from rfl, flat_get stemL 2 stemL_len _ j (by rw [hfl]; exact hlt) 0 (by omega), hpg]
        rfl
      have Z0 : w2.frozen? ⟨w.heap.size, j * 2, none⟩ = false := by rw [Nat.zero_add] at z0; exact z0
      have t0 := hw2.setC (j := j * 2) (by omega) (.string l[j].word)
      rw [Nat.zero_add] at t0
      obtain ⟨e1, z1, -, -⟩ := t0.at (j := j * 2 + 1) (by omega)
      have E1 : (w2.setCell ⟨w.heap.size, j * 2, none⟩ (.string l[j].word)).cell? ⟨w.heap.size, j * 2 + 1, none⟩ = some (.slice none 0 0) := by
        rw [Nat.zero_add] at e1
        rw [e1, List.getElem?_set_ne (by omega), flat_get stemL 2 stemL_len _ j (by rw [hfl]; exact hlt) 1 (by omega), hpg]
        rfl
      have Z1 : (w2.setCell ⟨w.heap.size, j * 2, none⟩ (.string l[j].word)).frozen? ⟨w.heap.size, j * 2 + 1, none⟩ = false := by rw [Nat.zero_add] at z1; exact z1
      have t1 := t0.setC (j := j * 2 + 1) (by omega) (.slice ua l[j].uses.length uc)
      rw [Nat.zero_add, flat_set2 _ j (by rw [hfl]; exact hlt) (l[j], (.slice ua l[j].uses.length uc))] at t1
      have hps : (pairsTo l us).set j (l[j], (.slice ua l[j].uses.length uc)) = pairsTo l (us ++ [(.slice ua l[j].uses.length uc)]) := by
        have := HJ.out
        subst this
        exact pairsTo_succ l us _ hlt
      rw [hps] at t1
      have HST := Lib.hid t1
      have HKB := Lib.hid ((kept_setCell (w := w2) (lo := w.heap.size) (hi := w.heap.size + 1) (o := j * 2) (Nat.le_refl _) (Nat.lt_succ_self _) (.string l[j].word)).trans (kept_setCell (o := j * 2 + 1) (Nat.le_refl _) (Nat.lt_succ_self _) (.slice ua l[j].uses.length uc)))
      clear hb2 hw2 d0 d1 hu' e0 e1 z0 z1 t0 t1 hps hpg
      go_wp2
      go_roundw
      case rel =>
        have hz3 := HKB.out.size
        refine ⟨us ++ [(.slice ua l[j].uses.length uc)], by have := HJ.out; simp; omega, by have := HJ.out; rw [List.length_append, List.length_singleton, ← this]; go_num, HST, Lib.hid (HB2.out.trans (HKB.out.below (Nat.le_refl _) HB2.out.size)), by omega, Lib.hid fun i hi hi' => ?_⟩
        by_cases h : i < us.length
        · rw [List.getElem_append_left h]
          exact ((HUS2.out i h hi').kept HKB.out (.inr (Nat.le_refl _))).mono (Nat.le_refl _) (by omega)
        · have hij : i = us.length := by simp at hi; omega
          subst hij
          rw [List.getElem_append_right (Nat.le_refl _)]
          have hj2 := HJ.out
          simp only [Nat.sub_self, List.getElem_cons_zero]
          have hh := (HUQ.out.kept HKB.out (.inr hsz)).mono (lo' := w.heap.size + 1) (hi' := ((w2.setCell ⟨w.heap.size, j * 2, none⟩ (.string l[j].word)).setCell ⟨w.heap.size, j * 2 + 1, none⟩ (.slice ua l[j].uses.length uc)).heap.size) hsz hz3
          simpa only [hj2] using hh
      case measure => simp [intOf]; omega
    · go_wp2
      go_ret
      have hjl : us.length = l.length := by omega
      have hw := HW.out
      have hp : pairsTo l us = l.zip us := by unfold pairsTo; rw [hjl]; simp
      rw [hp] at hw
      exact ⟨_, rfl, ⟨us, hjl, hw.mono (Nat.le_refl _) hsz, fun i hi hi' => ⟨Hwl.out i hi, (HUS.out i hi' hi).mono (by omega) (Nat.le_refl _)⟩⟩, HB.out⟩
theorem infoGra : (Tryd.prog.info? 31).map (·.size) = some 2 := by kernel_rfl
set_option maxHeartbeats 4000000 in
set_option maxRecDepth 20000 in
theorem toGrammar_any (v : Value) (x : GraD) (w : World) (hv : GraR w v x) (hn : GraLim x) :
    Calls Tryd.prog 10 #[v] w fun e w' => ∃ s, e = .returned s ∧ GraW w' w.heap.size w'.heap.size s x ∧ Below w.heap.size w w' := by
  obtain ⟨s1, s2, rfl, h1, h2⟩ := hv
  have hb0 : Below w.heap.size w (((w.alloc (.cells #[s1, s2] 25)).alloc (.cells #[.slice none 0 0, .slice none 0 0] 31)).alloc (.cells #[.slice none 0 0, .slice none 0 0] 31)) := (((Below.refl _ _).alloc (Nat.le_refl _) _).alloc (by simp) _).alloc (by simp; omega) _
  have r0 := heap3_0 w (.cells #[s1, s2] 25) (.cells #[.slice none 0 0, .slice none 0 0] 31) (.cells #[.slice none 0 0, .slice none 0 0] 31)
  have r1 := heap3_1 w (.cells #[s1, s2] 25) (.cells #[.slice none 0 0, .slice none 0 0] 31) (.cells #[.slice none 0 0, .slice none 0 0] 31)
  have r2 := heap3_2 w (.cells #[s1, s2] 25) (.cells #[.slice none 0 0, .slice none 0 0] 31) (.cells #[.slice none 0 0, .slice none 0 0] 31)
  have HB0 := Lib.hid hb0
  go_enter Tryd.func10, Tryd.ntmps10
  go_wp2_with fail
  refine (toAffixS_any s1 x.affixes _ (h1.below hb0) hn.a hn.l).mono ?_
  rintro e w1 ⟨u1, rfl, hu1, hb1⟩
  obtain ⟨ua, uc, rfl, -, -, -⟩ := hu1.read.shape
  have hz1 : w.heap.size + 3 ≤ w1.heap.size := by have := hb1.size; simpa using this
  have R0 := Lib.hid ((hb1.block w.heap.size (by simp; omega)).trans r0)
  have R1 := Lib.hid ((hb1.block (w.heap.size + 1) (by simp)).trans r1)
  have R2 := Lib.hid ((hb1.block (w.heap.size + 1 + 1) (by simp)).trans r2)
  have HB1 := Lib.hid (HB0.out.trans (hb1.mono HB0.out.size))
  have HU1 := Lib.hid (hu1.mono (lo' := w.heap.size + 3) (hi' := w1.heap.size) (by simp) (Nat.le_refl _))
  obtain ⟨c1, x1⟩ := cell_of_heap (i := 1) (v := s2) R0.out rfl
  obtain ⟨d0, y0⟩ := cell_of_heap (i := 0) (v := .slice none 0 0) R2.out rfl
  have n1 : ¬ (w.heap.size + 1 + 1 = w.heap.size) := by omega
  have n2 : ¬ (w.heap.size = w.heap.size + 1 + 1) := by omega
  clear hb1 hu1 r0 r1 r2 hb0
  go_wp2_with fail
  have hk3 : Kept (w.heap.size + 1 + 1) (w.heap.size + 1 + 1 + 1) w1 (w1.setCell ⟨w.heap.size + 1 + 1, 0, none⟩ (.slice ua x.affixes.length uc)) := kept_setCell (Nat.le_refl _) (Nat.lt_succ_self _) _
  have HB2 := Lib.hid (HB1.out.trans (hk3.below (by omega) HB1.out.size))
  have R1b := Lib.hid ((hk3.block (w.heap.size + 1) (by omega) (.inl (by omega))).trans R1.out)
  have R2b := Lib.hid (set_heap (i := 0) (.slice ua x.affixes.length uc) R2.out)
  have HU1b := Lib.hid (HU1.out.kept hk3 (.inr (by omega)))
  have hz2 : (w1.setCell ⟨w.heap.size + 1 + 1, 0, none⟩ (.slice ua x.affixes.length uc)).heap.size = w1.heap.size := by simp [World.setCell]
  clear hk3 c1 x1 d0 y0
  generalize w1.setCell ⟨w.heap.size + 1 + 1, 0, none⟩ (.slice ua x.affixes.length uc) = w2 at HB2 R1b R2b HU1b hz2 ⊢
  refine (toStemS_any s2 x.stems _ (h2.below HB2.out) hn.s hn.u).mono ?_
  rintro e w3 ⟨u2, rfl, hu2, hb3⟩
  obtain ⟨va, vc, rfl, -, -, -⟩ := hu2.read.shape
  have hz3 := hb3.size
  have R1c := Lib.hid ((hb3.block (w.heap.size + 1) (by omega)).trans R1b.out)
  have R2c := Lib.hid ((hb3.block (w.heap.size + 1 + 1) (by omega)).trans R2b.out)
  have HB3 := Lib.hid (HB2.out.trans (hb3.mono HB2.out.size))
  have HU1c := Lib.hid (HU1b.out.below hb3)
  have HU2 := Lib.hid (hu2.mono (lo' := w.heap.size + 3) (hi' := w3.heap.size) (by omega) (Nat.le_refl _))
  obtain ⟨d0, y0⟩ := cell_of_heap (i := 0) (v := (.slice ua x.affixes.length uc)) R2c.out rfl
  obtain ⟨d1, y1⟩ := cell_of_heap (i := 1) (v := .slice none 0 0) R2c.out rfl
  obtain ⟨e0, z0⟩ := cell_of_heap (i := 0) (v := .slice none 0 0) R1c.out rfl
  obtain ⟨e1, z1⟩ := cell_of_heap (i := 1) (v := .slice none 0 0) R1c.out rfl
  have n3 : ¬ (w.heap.size + 1 + 1 = w.heap.size + 1) := by omega
  have n4 : ¬ (w.heap.size + 1 = w.heap.size + 1 + 1) := by omega
  clear hb3 hu2
  go_wp2
  have hk4 : Kept (w.heap.size + 1 + 1) (w.heap.size + 1 + 1 + 1) w3 (w3.setCell ⟨w.heap.size + 1 + 1, 1, none⟩ (.slice va x.stems.length vc)) := kept_setCell (Nat.le_refl _) (Nat.lt_succ_self _) _
  have st := store2 ((hk4.block (w.heap.size + 1) (by omega) (.inl (by omega))).trans R1c.out) (.slice ua x.affixes.length uc) (.slice va x.stems.length vc)
  have hz4 := hk4.size
  refine bodyPost_ret (v := .agg #[.slice ua x.affixes.length uc, .slice va x.stems.length vc]) (results_cell_row (p := 2) (ty := 31) rfl _ _ (w.heap.size + 1) _ _ _ _ rfl st.1 Tryd.underlying31 rfl infoGra) rfl
    ⟨_, rfl, ⟨.slice ua x.affixes.length uc, .slice va x.stems.length vc, rfl, ((HU1c.out.kept hk4 (.inr (by omega))).kept st.2.1 (.inr (by omega))).mono (by omega) (by rw [st.2.2]; omega), ((HU2.out.kept hk4 (.inr (by omega))).kept st.2.1 (.inr (by omega))).mono (by omega) (by rw [st.2.2]; omega)⟩, (HB3.out.trans (hk4.below (by omega) HB3.out.size)).trans (st.2.1.below (by omega) (by have := HB3.out.size; omega))⟩
end Go.Proofs.YtgefgdkejenhnaaDoor
