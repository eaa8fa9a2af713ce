/- ValidGrammar of the program: affixNamed, validStem. No condition but the readings. -/
import Derived.Test.YtgefgdkejenhnaaDoorVg
import Derived.Test.YtgefgdkejenhnaaDoorGz
import Derived.Test.YtgefgdkejenhnaaDoorWoL
namespace Go.Proofs.YtgefgdkejenhnaaDoor
open Go.RowKit
attribute [local irreducible] Calls
set_option maxHeartbeats 4000000 in
theorem affixNamed_is (v : Value) (x : GraD) (n : ByteArray) (w : World) (hv : GraR w v x) :
    Calls Tryd.prog 78 #[v, .string n] w fun e w' => e = .returned (.tuple #[.agg #[.string (affOf x.affixes n).name, .bool (affOf x.affixes n).front, .string (affOf x.affixes n).cond, .string (affOf x.affixes n).strip, .string (affOf x.affixes n).add], .bool (hasB x.affixes n)]) ∧ Below w.heap.size w w' := by
  obtain ⟨s1, s2, rfl, ha, hs⟩ := hv
  obtain ⟨a1, c1, rfl, hl, hc, hcs⟩ := ha.shape
  obtain ⟨a2, c2, rfl, _⟩ := hs.shape
  unfold maxLen at hc
  clear ha hs
  go_enter Tryd.func78, Tryd.ntmps78
  go_wp2
  go_loopw [11] (fun i wr => ∃ k : Nat, k ≤ x.affixes.length ∧ i = .int .i64 k ∧ (∀ i (hi : i < k), (h : i < x.affixes.length) → x.affixes[i].name ≠ n) ∧ wr.heap[w.heap.size + 1]? = some (.cells #[.string ⟨#[]⟩, .bool false, .string ⟨#[]⟩, .string ⟨#[]⟩, .string ⟨#[]⟩] 64 (0, 0)) ∧ Below w.heap.size w wr) (fun i _ => x.affixes.length - (intOf i).toNat)
  case atStart => exact ⟨0, by omega, rfl, fun i hi => by omega, heap_alloc2_new w _ _, ((Below.refl _ _).alloc (Nat.le_refl _) _).alloc (by simp) _⟩
  case round =>
    obtain ⟨k, hk, rfl, hno, hR, hb⟩ := hrel
    have Hno := Lib.hid hno
    have HR := Lib.hid hR
    have hsz := hb.size
    have hlt2 := (Array.getElem?_eq_some_iff.1 hR).1
    clear hno hR
    by_cases hlt : k < x.affixes.length
    · obtain ⟨b, off, rfl, e0, e1, e2, e3, e4, -⟩ := hcs k hlt
      have e0 := (hb.cell (cell_lt e0)).trans e0
      have e1 := (hb.cell (cell_lt e1)).trans e1
      have e2 := (hb.cell (cell_lt e2)).trans e2
      have e3 := (hb.cell (cell_lt e3)).trans e3
      have e4 := (hb.cell (cell_lt e4)).trans e4
      have hbn : Below wr.heap.size wr (wr.alloc (.cells #[.string x.affixes[k].name, .bool x.affixes[k].front, .string x.affixes[k].cond, .string x.affixes[k].strip, .string x.affixes[k].add] 64)) := (Below.refl _ _).alloc (Nat.le_refl _) _
      have hRn := (hbn.block (w.heap.size + 1) hlt2).trans HR.out
      have HRn := Lib.hid hRn
      have hbB := hb.trans (hbn.mono hsz)
      clear hcs hRn hbn
      cases he : (x.affixes[k].name.toList == n.toList)
      · have He := Lib.hid (bytes_ne_of he)
        go_wp2
        go_roundw
        case rel => exact ⟨k + 1, by omega, by go_num, fun i hi h => by
          rcases Nat.lt_succ_iff_lt_or_eq.1 hi with h2 | rfl
          · exact Hno.out i h2 h
          · exact He.out, HRn.out, hbB⟩
        case measure => simp [intOf]; omega
      · have He := Lib.hid (bytes_eq_of he)
        obtain ⟨a0, y0⟩ := src_cell (w := wr) (i := 0) (v := (.string ⟨#[]⟩)) HR.out rfl
        obtain ⟨a1, y1⟩ := src_cell (w := wr) (i := 1) (v := (.bool false)) HR.out rfl
        obtain ⟨a2, y2⟩ := src_cell (w := wr) (i := 2) (v := (.string ⟨#[]⟩)) HR.out rfl
        obtain ⟨a3, y3⟩ := src_cell (w := wr) (i := 3) (v := (.string ⟨#[]⟩)) HR.out rfl
        obtain ⟨a4, y4⟩ := src_cell (w := wr) (i := 4) (v := (.string ⟨#[]⟩)) HR.out rfl
        go_wp2
        have st := store5 HR.out (.string x.affixes[k].name) (.bool x.affixes[k].front) (.string x.affixes[k].cond) (.string x.affixes[k].strip) (.string x.affixes[k].add)
        refine bodyPost_ret (v := .tuple #[.agg #[.string x.affixes[k].name, .bool x.affixes[k].front, .string x.affixes[k].cond, .string x.affixes[k].strip, .string x.affixes[k].add], .bool true]) (results_cell_rowU (p := 4) (u := 5) (ty := 64) rfl _ _ (w.heap.size + 1) _ _ _ _ rfl ((Below.heap_alloc _ _ _ (by rw [st.2.2]; exact hlt2)).trans st.1) Tryd.underlying64 rfl infoAffix) rfl
          ⟨by rw [affOf_at hlt He.out fun i hi => Hno.out i hi (by omega), show hasB x.affixes n = true from List.any_eq_true.2 ⟨_, List.getElem_mem hlt, by simpa using He.out⟩], (hb.trans (st.2.1.below (by omega) hb.size)).alloc (by rw [st.2.2]; exact hsz) _⟩
    · obtain ⟨a0, y0⟩ := src_cell (w := wr) (i := 0) (v := (.string ⟨#[]⟩)) HR.out rfl
      obtain ⟨a1, y1⟩ := src_cell (w := wr) (i := 1) (v := (.bool false)) HR.out rfl
      obtain ⟨a2, y2⟩ := src_cell (w := wr) (i := 2) (v := (.string ⟨#[]⟩)) HR.out rfl
      obtain ⟨a3, y3⟩ := src_cell (w := wr) (i := 3) (v := (.string ⟨#[]⟩)) HR.out rfl
      obtain ⟨a4, y4⟩ := src_cell (w := wr) (i := 4) (v := (.string ⟨#[]⟩)) HR.out rfl
      have hnb : hasB x.affixes n = false := by
        rw [hasB, List.any_eq_false]
        intro y hy
        obtain ⟨i, hi, rfl⟩ := List.getElem_of_mem hy
        simpa using Hno.out i (by omega) hi
      clear hcs
      go_wp2
      have st := store5 HR.out (.string ⟨#[]⟩) (.bool false) (.string ⟨#[]⟩) (.string ⟨#[]⟩) (.string ⟨#[]⟩)
      refine bodyPost_ret (v := .tuple #[.agg #[.string ⟨#[]⟩, .bool false, .string ⟨#[]⟩, .string ⟨#[]⟩, .string ⟨#[]⟩], .bool false]) (results_cell_rowU (p := 4) (u := 5) (ty := 64) rfl _ _ (w.heap.size + 1) _ _ _ _ rfl st.1 Tryd.underlying64 rfl infoAffix) rfl
        ⟨by rw [hnb, affOf_none fun i hi => Hno.out i (by omega) hi]; rfl, hb.trans (st.2.1.below (by omega) hb.size)⟩

theorem affixNamed_any (v : Value) (x : GraD) (n : ByteArray) (w : World) (hv : GraR w v x) :
    Calls Tryd.prog 78 #[v, .string n] w fun e w' => (∃ r : AffD, e = .returned (.tuple #[.agg #[.string r.name, .bool r.front, .string r.cond, .string r.strip, .string r.add], .bool (hasB x.affixes n)])) ∧ Below w.heap.size w w' :=
  (affixNamed_is v x n w hv).mono fun _ _ ⟨h, hb⟩ => ⟨⟨_, h⟩, hb⟩
set_option maxHeartbeats 4000000 in
theorem validStem_any (v : Value) (x : GraD) (u : Value) (s : StemD) (w : World) (hv : GraR w v x) (hw : s.word.size ≤ maxLen) (hu : Strs w u s.uses) :
    Calls Tryd.prog 35 #[v, .agg #[.string s.word, u]] w fun e w' => e = .returned (.bool (stemB x.affixes s)) ∧ Below w.heap.size w w' := by
  have HV := Lib.hid hv
  have HU := Lib.hid hu
  have HW := Lib.hid hw
  obtain ⟨s1, s2, rfl, ha, hs⟩ := hv
  obtain ⟨a1, c1, rfl, _⟩ := ha.shape
  obtain ⟨a2, c2, rfl, _⟩ := hs.shape
  obtain ⟨a3, c3, rfl, hl, hc, hcs⟩ := hu.shape
  unfold maxLen at hc
  clear ha hs hu hw
  go_enter Tryd.func35, Tryd.ntmps35
  go_wp2
  go_loopw [12] (fun i wr => ∃ k : Nat, k ≤ s.uses.length ∧ i = .int .i64 k ∧ (∀ i (hi : i < k), (h : i < s.uses.length) → hasB x.affixes s.uses[i] = true) ∧
      wr.cell? ⟨w.heap.size, 0, none⟩ = some (.slice a1 x.affixes.length c1) ∧ wr.cell? ⟨w.heap.size, 1, none⟩ = some (.slice a2 x.stems.length c2) ∧ wr.cell? ⟨w.heap.size + 1, 0, none⟩ = some (.string s.word) ∧ wr.cell? ⟨w.heap.size + 1, 1, none⟩ = some (.slice a3 s.uses.length c3) ∧ Below w.heap.size w wr) (fun i _ => s.uses.length - (intOf i).toNat)
  case atStart => exact ⟨0, by omega, rfl, fun i hi => by omega, (src_cell (heap_alloc2_old w _ _) rfl).1, (src_cell (heap_alloc2_old w _ _) rfl).1, (src_cell (heap_alloc2_new w _ _) rfl).1, (src_cell (heap_alloc2_new w _ _) rfl).1, ((Below.refl _ _).alloc (Nat.le_refl _) _).alloc (by simp) _⟩
  case round =>
    obtain ⟨k, hk, rfl, hall, g0, g1, p0, p1, hb⟩ := hrel
    have Hall := Lib.hid hall
    have HB := Lib.hid hb
    have hsz := hb.size
    clear hall
    by_cases hlt : k < s.uses.length
    · obtain ⟨b, off, rfl, e0, -⟩ := hcs k hlt
      have e0 := (hb.cell (cell_lt e0)).trans e0
      clear hcs hb
      go_wp2_with fail
      refine (affixNamed_any _ x s.uses[k] _ (HV.out.below HB.out)).mono ?_
      rintro e w2 ⟨⟨r, rfl⟩, hb2⟩
      have g0 := cell_below hb2 g0
      have g1 := cell_below hb2 g1
      have p0 := cell_below hb2 p0
      have p1 := cell_below hb2 p1
      have HB2 := Lib.hid (HB.out.trans (hb2.mono hsz))
      have hsz2 := HB2.out.size
      clear hb2
      cases hd : hasB x.affixes s.uses[k]
      · have Hd := Lib.hid hd
        go_wp2
        go_ret
        refine ⟨ret_bool ?_, HB2.out.alloc hsz2 _⟩
        rw [stemB, show s.uses.all (hasB x.affixes) = false by rw [List.all_eq_false]; exact ⟨_, List.getElem_mem hlt, by simp [Hd.out]⟩]; rfl
      · have Hd := Lib.hid hd
        go_wp2
        go_roundw
        case rel =>
          have hbn : ∀ o, Below w2.heap.size w2 (w2.alloc o) := fun o => (Below.refl _ _).alloc (Nat.le_refl _) _
          exact ⟨k + 1, by omega, by go_num, fun i hi h => by
            rcases Nat.lt_succ_iff_lt_or_eq.1 hi with h2 | rfl
            · exact Hall.out i h2 h
            · exact Hd.out, cell_below (hbn _) g0, cell_below (hbn _) g1, cell_below (hbn _) p0, cell_below (hbn _) p1, HB2.out.alloc hsz2 _⟩
        case measure => simp [intOf]; omega
    · have hal : s.uses.all (hasB x.affixes) = true := List.all_eq_true.2 fun y hy => by
        obtain ⟨i, hi, rfl⟩ := List.getElem_of_mem hy
        exact Hall.out i (by omega) hi
      have Hal := Lib.hid hal
      clear hcs hal hb
      cases hL : isLong s.word
      · have HL := Lib.hid hL
        go_wp2_with (go_at_call 48; refine (isLong_any s.word _ HW.out).mono ?_; rintro e w2 ⟨rfl, hb2⟩; rw [HL.out])
        go_ret
        exact ⟨ret_bool (by rw [stemB, HL.out, Bool.and_false]), HB.out.trans (hb2.mono hsz)⟩
      · have HL := Lib.hid hL
        go_wp2_with (first
          | (go_at_call 48; refine (isLong_any s.word _ HW.out).mono ?_; rintro e w2 ⟨rfl, hb2⟩; rw [HL.out]; have p1 := cell_below hb2 p1; have hb2 := HB.out.trans (hb2.mono hsz))
          | (go_at_call 79; refine (increasing_any _ s.uses _ (HU.out.below hb2)).mono ?_; rintro e w3 ⟨rfl, hb3⟩))
        go_ret
        exact ⟨ret_bool (by rw [stemB, HL.out, Hal.out, Bool.and_true, Bool.true_and]), hb2.trans (hb3.mono hb2.size)⟩
end Go.Proofs.YtgefgdkejenhnaaDoor
