/- Marks on grammars: markAffixS, markStemS, markGrammar, heldAffixS, heldStemS, heldGrammar; stems whose lists lie apart. Condition: the marks are below 2^63. -/
import Derived.Test.YtgefgdkejenhnaaDoorMs
set_option linter.unusedSimpArgs false
namespace Go.Proofs.YtgefgdkejenhnaaDoor
open Go.RowKit
attribute [local irreducible] Calls
set_option maxHeartbeats 8000000 in
set_option maxRecDepth 20000 in
theorem markAffixS_any (v : Value) (l : List AffD) (k : Int) (lo hi : Nat) (w : World) (hv : AffsW w lo hi v l) (hk0 : 0 ≤ k) (hk1 : k + 5 * l.length ≤ 9223372036854775000) :
    Calls Tryd.prog 51 #[v, .int .i64 k] w fun e w' => e = .returned (.int .i64 (k + 5 * l.length)) ∧ AffsW w' lo hi v (mkAs k l.length) ∧ Kept lo hi w w' := by
  obtain ⟨a, c, hve, hl, hc, -⟩ := hv.read.shape
  unfold maxLen at hc
  subst hve
  have HV := Lib.hid hv
  clear hv
  go_enter Tryd.func51, Tryd.ntmps51
  go_wp2
  go_loopw [1, 5] (fun t i wr => ∃ j : Nat, j ≤ l.length ∧ i = .int .i64 j ∧ t = .int .i64 (k + 5 * j) ∧ Hid (AffsW wr lo hi (.slice a l.length c) (markedA k l j)) ∧ Hid (Kept lo hi w wr)) (fun _ i _ => l.length - (intOf i).toNat)
  case atStart => exact ⟨0, Nat.zero_le _, rfl, by go_num, by rw [markedA_zero]; exact HV, Lib.hid (Kept.refl _ _ _)⟩
  case round =>
    obtain ⟨j, hj, rfl, rfl, HS, HK⟩ := hrel
    by_cases hlt : j < l.length
    · have hlen := markedA_length k l j hj
      have hlI : (j : Int) < (l.length : Int) := by omega
      obtain ⟨z, hz⟩ : ∃ z : Int, z = k + 5 * (j : Int) := ⟨_, rfl⟩
      have hz0 : 0 ≤ z := by omega
      have hz1 : z + 5 ≤ 9223372036854775000 := by omega
      rw [← hz]
      have HZ := Lib.hid hz
      obtain ⟨g, off, c', e1, hg1, hg2⟩ := HS.out.1.own (by omega)
      obtain ⟨rfl, -, rfl⟩ := Value.slice.inj e1
      have hsl : SlW wr lo hi 64 5 (.slice (some ⟨g, off, none⟩) l.length c) l.length ((markedA k l j).flatMap affL) := by have := HS.out.1; rwa [hlen] at this
      have HSL := Lib.hid hsl
      have hfg : ∀ i, i < 5 → ((markedA k l j).flatMap affL)[j * 5 + i]? = (affL l[j])[i]? := fun i hi => by
        rw [flat_get affL 5 affL_len _ j (by omega) i hi, markedA_get k l j hlt]
      have HFG := Lib.hid hfg
      clear hsl e1 hfg hz
      go_wp2_with fail
      refine (markText_any _ _ (by omega)).mono ?_
      rintro e w1 ⟨rfl, hb1⟩
      have hs1 := HSL.out.below hb1
      have HK1 := Lib.hid (HK.out.trans (Kept.of_below (lo := lo) (hi := hi) hb1))
      clear hb1
      have HSL1 := Lib.hid hs1
      clear hs1
      obtain ⟨e0, z0, -, -⟩ := (HSL1.out).at (j := j * 5 + 0) (by omega)
      rw [← Nat.add_assoc] at e0 z0
      have E0 : (w1).cell? ⟨g, off + j * 5, none⟩ = some (.string l[j].name) := by
        refine e0.trans ?_
        exact HFG.out 0 (by omega)
      have Z0 : (w1).frozen? ⟨g, off + j * 5, none⟩ = false := z0
      have t0 := (HSL1.out).setC (j := j * 5 + 0) (by omega) (.string (mtext z))
      rw [← Nat.add_assoc] at t0
      simp only [Nat.add_zero] at t0
      have T0 := Lib.hid t0
      clear e0 z0 t0
      obtain ⟨e1, z1, -, -⟩ := (T0.out).at (j := j * 5 + 1) (by omega)
      rw [← Nat.add_assoc] at e1 z1
      have E1 : (((w1).setCell ⟨g, off + j * 5, none⟩ (.string (mtext z)))).cell? ⟨g, off + j * 5 + 1, none⟩ = some (.bool l[j].front) := by
        refine e1.trans ?_
        rw [List.getElem?_set_ne (by omega)]; exact HFG.out 1 (by omega)
      have Z1 : (((w1).setCell ⟨g, off + j * 5, none⟩ (.string (mtext z)))).frozen? ⟨g, off + j * 5 + 1, none⟩ = false := z1
      have t1 := (T0.out).setC (j := j * 5 + 1) (by omega) (.bool ((z + 1) % 3 == 0))
      rw [← Nat.add_assoc] at t1
      have T1 := Lib.hid t1
      clear e1 z1 t1
      have HK2 := Lib.hid ((HK1.out.trans (kept_setCell (o := off + j * 5) hg1 hg2 (.string (mtext z)))).trans (kept_setCell (o := off + j * 5 + 1) hg1 hg2 (.bool ((z + 1) % 3 == 0))))
      go_wp2_with fail
      refine (markText_any _ _ (by omega)).mono ?_
      rintro e w2 ⟨rfl, hb2⟩
      have hs2 := T1.out.below hb2
      have HK2b := Lib.hid (HK2.out.trans (Kept.of_below (lo := lo) (hi := hi) hb2))
      clear hb2
      have HSL2 := Lib.hid hs2
      clear hs2
      obtain ⟨e2, z2, -, -⟩ := (HSL2.out).at (j := j * 5 + 2) (by omega)
      rw [← Nat.add_assoc] at e2 z2
      have E2 : (w2).cell? ⟨g, off + j * 5 + 2, none⟩ = some (.string l[j].cond) := by
        refine e2.trans ?_
        rw [List.getElem?_set_ne (by omega), List.getElem?_set_ne (by omega)]; exact HFG.out 2 (by omega)
      have Z2 : (w2).frozen? ⟨g, off + j * 5 + 2, none⟩ = false := z2
      have t2 := (HSL2.out).setC (j := j * 5 + 2) (by omega) (.string (mtext (z + 1 + 1)))
      rw [← Nat.add_assoc] at t2
      have T2 := Lib.hid t2
      clear e2 z2 t2
      have HK2c := Lib.hid (HK2b.out.trans (kept_setCell (o := off + j * 5 + 2) hg1 hg2 (.string (mtext (z + 1 + 1)))))
      go_wp2_with fail
      refine (markText_any _ _ (by omega)).mono ?_
      rintro e w3 ⟨rfl, hb3⟩
      have hs3 := T2.out.below hb3
      have HK3b := Lib.hid (HK2c.out.trans (Kept.of_below (lo := lo) (hi := hi) hb3))
      clear hb3
      have HSL3 := Lib.hid hs3
      clear hs3
      obtain ⟨e3, z3, -, -⟩ := (HSL3.out).at (j := j * 5 + 3) (by omega)
      rw [← Nat.add_assoc] at e3 z3
      have E3 : (w3).cell? ⟨g, off + j * 5 + 3, none⟩ = some (.string l[j].strip) := by
        refine e3.trans ?_
        rw [List.getElem?_set_ne (by omega), List.getElem?_set_ne (by omega), List.getElem?_set_ne (by omega)]; exact HFG.out 3 (by omega)
      have Z3 : (w3).frozen? ⟨g, off + j * 5 + 3, none⟩ = false := z3
      have t3 := (HSL3.out).setC (j := j * 5 + 3) (by omega) (.string (mtext (z + 1 + 1 + 1)))
      rw [← Nat.add_assoc] at t3
      have T3 := Lib.hid t3
      clear e3 z3 t3
      have HK3c := Lib.hid (HK3b.out.trans (kept_setCell (o := off + j * 5 + 3) hg1 hg2 (.string (mtext (z + 1 + 1 + 1)))))
      go_wp2_with fail
      refine (markText_any _ _ (by omega)).mono ?_
      rintro e w4 ⟨rfl, hb4⟩
      have hs4 := T3.out.below hb4
      have HK4b := Lib.hid (HK3c.out.trans (Kept.of_below (lo := lo) (hi := hi) hb4))
      clear hb4
      have HSL4 := Lib.hid hs4
      clear hs4
      obtain ⟨e4, z4, -, -⟩ := (HSL4.out).at (j := j * 5 + 4) (by omega)
      rw [← Nat.add_assoc] at e4 z4
      have E4 : (w4).cell? ⟨g, off + j * 5 + 4, none⟩ = some (.string l[j].add) := by
        refine e4.trans ?_
        rw [List.getElem?_set_ne (by omega), List.getElem?_set_ne (by omega), List.getElem?_set_ne (by omega), List.getElem?_set_ne (by omega)]; exact HFG.out 4 (by omega)
      have Z4 : (w4).frozen? ⟨g, off + j * 5 + 4, none⟩ = false := z4
      have t4 := (HSL4.out).setC (j := j * 5 + 4) (by omega) (.string (mtext (z + 1 + 1 + 1 + 1)))
      rw [← Nat.add_assoc] at t4
      have T4 := Lib.hid t4
      clear e4 z4 t4
      have HK4c := Lib.hid (HK4b.out.trans (kept_setCell (o := off + j * 5 + 4) hg1 hg2 (.string (mtext (z + 1 + 1 + 1 + 1)))))
      have HX : Hid (AffsW ((w4).setCell ⟨g, off + j * 5 + 4, none⟩ (.string (mtext (z + 1 + 1 + 1 + 1)))) lo hi (.slice (some ⟨g, off, none⟩) l.length c) (markedA k l (j + 1))) := Lib.hid (by
        have h := T4.out
        have hfs := flat_set5 (markedA k l j) j (by omega) (mkAff z)
        have hz := HZ.out
        refine ⟨?_, fun x hx => ?_⟩
        · rw [markedA_length k l (j + 1) (by omega), ← markedA_succ k l j hlt, ← hz, ← hfs]
          exact h
        · rw [← markedA_succ k l j hlt, ← hz] at hx
          rcases List.mem_or_eq_of_mem_set hx with h2 | rfl
          · exact HS.out.2 x h2
          · exact mkAff_lim _ (by omega))
      clear HSL HFG T0 T1 T2 T3 T4
      go_wp2
      go_roundw
      case rel => exact ⟨j + 1, by omega, by go_num, by have := HZ.out; go_num, HX, HK4c⟩
      case measure => simp [intOf]; omega
    · go_wp2
      go_ret
      obtain rfl : j = l.length := by omega
      have h := HS.out
      rw [markedA_all] at h
      exact ⟨rfl, h, HK.out⟩
set_option maxHeartbeats 8000000 in
set_option maxRecDepth 20000 in
theorem heldAffixS_any (v : Value) (n : Nat) (k : Int) (w : World) (hv : Affs w v (mkAs k n)) (hk0 : 0 ≤ k) (hk1 : k + 5 * n ≤ 9223372036854775000) :
    Calls Tryd.prog 66 #[v, .int .i64 k] w fun e w' => e = .returned (.int .i64 (k + 5 * n)) ∧ Below w.heap.size w w' := by
  obtain ⟨a, c, rfl, hl, hc, hcs⟩ := hv.shape
  unfold maxLen at hc
  rw [mkAs_length] at hl
  simp only [mkAs_length] at hcs ⊢
  clear hv
  go_enter Tryd.func66, Tryd.ntmps66
  go_wp2
  go_loopw [1, 5] (fun t i wr => ∃ j : Nat, j ≤ n ∧ i = .int .i64 j ∧ t = .int .i64 (k + 5 * j) ∧ Below w.heap.size w wr) (fun _ i _ => n - (intOf i).toNat)
  case atStart => exact ⟨0, Nat.zero_le _, rfl, by go_num, Below.refl _ _⟩
  case round =>
    obtain ⟨j, hj, rfl, rfl, hb⟩ := hrel
    have HB0 := Lib.hid hb
    by_cases hlt : j < n
    · obtain ⟨z, hz⟩ : ∃ z : Int, z = k + 5 * (j : Int) := ⟨_, rfl⟩
      obtain ⟨b, off, rfl, k0, k1, k2, k3, k4, -⟩ := hcs j hlt
      have hmk : (mkAs k n)[j]'(by rw [mkAs_length]; exact hlt) = mkAff z := by simp [mkAs, hz]
      rw [hmk] at k0 k1 k2 k3 k4
      have hlo := cell_lt k0
      have hz0 : 0 ≤ z := by omega
      have hz1 : z + 5 ≤ 9223372036854775000 := by omega
      rw [← hz]
      have HZ := Lib.hid hz
      have hlI : (j : Int) < (n : Int) := by omega
      have heq : ∀ x : ByteArray, (x.toList == x.toList) = true := fun x => by simp
      simp only [mkAff] at k0 k1 k2 k3 k4
      have q0 := heq (mtext z)
      have q2 := heq (mtext (z + 1 + 1))
      have q3 := heq (mtext (z + 1 + 1 + 1))
      have q4 := heq (mtext (z + 1 + 1 + 1 + 1))
      clear hz hmk hcs heq
      have d0 := cell_below HB0.out k0
      go_wp2_with fail
      go_region_held3 (fun w' => w'.cell? ⟨b, off + j * 5, none⟩ = some (.string (mtext z)) ∧ Below w.heap.size w w')
        (first | exact ⟨d0, HB0.out.drew⟩ | exact ⟨(hbx.cell (p := ⟨b, off + j * 5, none⟩) (Nat.lt_of_lt_of_le hlo HB0.out.size)).trans d0, HB0.out.drew.trans (hbx.mono HB0.out.size)⟩)
        (first | (go_at_call 53; refine (markText_any _ _ (by omega)).mono ?_; rintro e w1 ⟨rfl, hbx⟩))
      have HB1 := Lib.hid (HB0.out.drew.trans (hbx.mono HB0.out.size))
      clear d0 hbx
      have d1 := cell_below HB1.out k1
      have d2 := cell_below HB1.out k2
      go_wp2_with fail
      go_region_held3 (fun w' => w'.cell? ⟨b, off + j * 5 + 2, none⟩ = some (.string (mtext (z + 1 + 1))) ∧ Below w.heap.size w w')
        (first | exact ⟨d2, HB1.out.drew⟩ | exact ⟨(hbx.cell (p := ⟨b, off + j * 5 + 2, none⟩) (Nat.lt_of_lt_of_le hlo HB1.out.size)).trans d2, HB1.out.drew.trans (hbx.mono HB1.out.size)⟩)
        (first | (go_at_call 53; refine (markText_any _ _ (by omega)).mono ?_; rintro e w2 ⟨rfl, hbx⟩))
      have HB2 := Lib.hid (HB1.out.drew.trans (hbx.mono HB1.out.size))
      clear d2 hbx
      have d3 := cell_below HB2.out k3
      go_wp2_with fail
      go_region_held3 (fun w' => w'.cell? ⟨b, off + j * 5 + 3, none⟩ = some (.string (mtext (z + 1 + 1 + 1))) ∧ Below w.heap.size w w')
        (first | exact ⟨d3, HB2.out.drew⟩ | exact ⟨(hbx.cell (p := ⟨b, off + j * 5 + 3, none⟩) (Nat.lt_of_lt_of_le hlo HB2.out.size)).trans d3, HB2.out.drew.trans (hbx.mono HB2.out.size)⟩)
        (first | (go_at_call 53; refine (markText_any _ _ (by omega)).mono ?_; rintro e w3 ⟨rfl, hbx⟩))
      have HB3 := Lib.hid (HB2.out.drew.trans (hbx.mono HB2.out.size))
      clear d3 hbx
      have d4 := cell_below HB3.out k4
      go_wp2_with fail
      go_region_held3 (fun w' => w'.cell? ⟨b, off + j * 5 + 4, none⟩ = some (.string (mtext (z + 1 + 1 + 1 + 1))) ∧ Below w.heap.size w w')
        (first | exact ⟨d4, HB3.out.drew⟩ | exact ⟨(hbx.cell (p := ⟨b, off + j * 5 + 4, none⟩) (Nat.lt_of_lt_of_le hlo HB3.out.size)).trans d4, HB3.out.drew.trans (hbx.mono HB3.out.size)⟩)
        (first | (go_at_call 53; refine (markText_any _ _ (by omega)).mono ?_; rintro e w4 ⟨rfl, hbx⟩))
      have HB4 := Lib.hid (HB3.out.drew.trans (hbx.mono HB3.out.size))
      clear d4 hbx
      go_wp2
      go_roundw
      case rel => exact ⟨j + 1, by omega, by go_num, by have := HZ.out; go_num, HB4.out⟩
      case measure => simp [intOf]; omega
    · go_wp2
      go_ret
      obtain rfl : j = n := by omega
      exact ⟨rfl, HB0.out⟩
set_option maxHeartbeats 8000000 in
set_option maxRecDepth 20000 in
theorem markStemS_any (v : Value) (l : List StemD) (us : List Value) (og : Nat) (q : Nat → Nat) (lo hi : Nat) (k : Int) (w : World) (hv : StX 67 w og q us v l) (h1 : lo ≤ og ∧ og < hi) (h2 : ∀ j, j < l.length → lo ≤ q j ∧ q j < hi) (hk0 : 0 ≤ k) (hk1 : k + useN l ≤ 9223372036854775000) :
    Calls Tryd.prog 52 #[v, .int .i64 k] w fun e w' => e = .returned (.int .i64 (k + useN l)) ∧ StX 67 w' og q us v (mkS k l) ∧ Kept lo hi w w' ∧ (∀ b, b < w.heap.size → b ≠ og → (∀ j, j < l.length → b ≠ q j) → w'.heap[b]? = w.heap[b]?) := by
  obtain ⟨a, c, hve, hl, hc, -⟩ := hv.stems.shape
  unfold maxLen at hc
  subst hve
  have HV := Lib.hid hv
  have H2 := Lib.hid h2
  have hML := mkS_len k l
  clear hv h2
  go_enter Tryd.func52, Tryd.ntmps52
  go_wp2
  go_loopw [1, 5] (fun t i wr => ∃ j : Nat, j ≤ l.length ∧ i = .int .i64 j ∧ t = .int .i64 (k + useN (l.take j)) ∧ Hid (StX 67 wr og q us (.slice a l.length c) (mixT (mkS k l) l j)) ∧ Hid (Kept lo hi w wr) ∧ Hid (∀ b, b < w.heap.size → b ≠ og → (∀ j, j < l.length → b ≠ q j) → wr.heap[b]? = w.heap[b]?)) (fun _ i _ => l.length - (intOf i).toNat)
  case atStart => exact ⟨0, Nat.zero_le _, rfl, by simp [useN], by rw [mixT_zero]; exact HV, Lib.hid (Kept.refl _ _ _), Lib.hid (fun _ _ _ _ => rfl)⟩
  case round =>
    obtain ⟨j, hj, rfl, rfl, HS, HK, HO⟩ := hrel
    by_cases hlt : j < l.length
    · have hlen := mixT_len (mkS k l) l hML j hj
      have hget := mixT_get (mkS k l) l hML j hlt (by omega)
      have hlI : (j : Int) < (l.length : Int) := by omega
      have hust := useN_take l j hlt
      have husl := useN_le l (j + 1)
      obtain ⟨z, hz⟩ : ∃ z : Int, z = k + useN (l.take j) := ⟨_, rfl⟩
      have hz0 : 0 ≤ z := by omega
      have hz1 : z + 1 + l[j].uses.length ≤ 9223372036854775000 := by omega
      rw [← hz]
      have HZ := Lib.hid hz
      obtain ⟨g, off, c', e1, hg1, hg2⟩ := HS.out.out.own (by omega)
      obtain ⟨rfl, -, rfl⟩ := Value.slice.inj e1
      obtain rfl : g = og := by omega
      clear e1 hz
      go_wp2_with fail
      refine (markText_any _ _ (by omega)).mono ?_
      rintro e w1 ⟨rfl, hb1⟩
      have hs1 := HS.out.below hb1
      have HK1 := Lib.hid (HK.out.trans (Kept.of_below (lo := lo) (hi := hi) hb1))
      have HO1 := Lib.hid (fun b (hb : b < w.heap.size) h1 h2 => (hb1.block b (Nat.lt_of_lt_of_le hb HK.out.size)).trans (HO.out b hb h1 h2))
      clear hb1
      obtain ⟨-, ua0, uc0, k0, f0, -⟩ := hs1.at j (by omega)
      have hs2 := hs1.setWord j (by omega) (mtext z) (mtext_le _ (by omega))
      obtain ⟨-, ua, uc, -, -, k1, hus, hu, hul, huc⟩ := hs2.at j (by rw [List.length_set]; omega)
      simp only [List.getElem_set_self, hget] at k0 k1 hus hu hul
      have HS2 := Lib.hid hs2
      have HU := Lib.hid hu
      have HUS := Lib.hid hus
      have HK2 := Lib.hid (HK1.out.trans (kept_setCell (o := off + j * 2) h1.1 h1.2 (.string (mtext z))))
      unfold maxLen at hul huc
      clear hs1 hs2 hu hus
      go_wp2_with fail
      refine (markStringS_any _ l[j].uses (z + 1) (q j) (q j + 1) _ HU.out (by omega) (by omega)).mono ?_
      rintro e w3 ⟨rfl, hm, hk3⟩
      have hs3 := HS2.out.setUses j (by rw [List.length_set]; omega) _ HUS.out _ hk3 hm
      rw [List.getElem_set_self, List.set_set] at hs3
      have HS3 : Hid (StX 67 w3 g q us (.slice (some ⟨g, off, none⟩) l.length c) (mixT (mkS k l) l (j + 1))) := Lib.hid (by
        have e2 := mixT_set (mkS k l) l hML j hlt (by omega)
        rw [mkS_get k l j hlt, ← HZ.out] at e2
        rw [← e2]
        exact hs3)
      have HO3 : Hid (∀ b, b < w.heap.size → b ≠ g → (∀ j, j < l.length → b ≠ q j) → w3.heap[b]? = w.heap[b]?) := Lib.hid (fun b hb h1 h2 => (hk3.block b (Nat.lt_of_lt_of_le hb HK2.out.size) (by have := h2 j hlt; omega)).trans ((Below.heap_setCell _ _ _ _ (by show b ≠ g; exact h1)).trans (HO1.out b hb h1 h2)))
      have HK3 := Lib.hid (HK2.out.trans (hk3.mono (H2.out j hlt).1 (by have := (H2.out j hlt).2; omega)))
      clear hs3 hk3 hm HU HUS HS2 k0 k1 f0
      go_wp2
      go_roundw
      case rel => exact ⟨j + 1, by omega, by go_num, by have := HZ.out; rw [hust]; push_cast; rw [← Int.add_assoc, ← Int.add_assoc, ← this], HS3, HK3, HO3⟩
      case measure => simp [intOf]; omega
    · go_wp2
      go_ret
      obtain rfl : j = l.length := by omega
      have h := HS.out
      rw [mixT_all _ _ hML] at h
      rw [List.take_length]
      exact ⟨rfl, h, HK.out, HO.out⟩
set_option maxHeartbeats 8000000 in
set_option maxRecDepth 20000 in
theorem heldStemS_any (v : Value) (l : List StemD) (k : Int) (w : World) (hv : Stems w v (mkS k l)) (hk0 : 0 ≤ k) (hk1 : k + useN l ≤ 9223372036854775000) :
    Calls Tryd.prog 67 #[v, .int .i64 k] w fun e w' => e = .returned (.int .i64 (k + useN l)) ∧ Below w.heap.size w w' := by
  obtain ⟨a, c, rfl, hl, hc, hcs⟩ := hv.shape
  unfold maxLen at hc
  have hML := mkS_len k l
  rw [hML] at hl
  simp only [hML] at hcs ⊢
  clear hv
  go_enter Tryd.func67, Tryd.ntmps67
  go_wp2
  go_loopw [1, 5] (fun t i wr => ∃ j : Nat, j ≤ l.length ∧ i = .int .i64 j ∧ t = .int .i64 (k + useN (l.take j)) ∧ Below w.heap.size w wr) (fun _ i _ => l.length - (intOf i).toNat)
  case atStart => exact ⟨0, Nat.zero_le _, rfl, by simp [useN], Below.refl _ _⟩
  case round =>
    obtain ⟨j, hj, rfl, rfl, hb⟩ := hrel
    have HB0 := Lib.hid hb
    by_cases hlt : j < l.length
    · have hust := useN_take l j hlt
      have husl := useN_le l (j + 1)
      obtain ⟨z, hz⟩ : ∃ z : Int, z = k + useN (l.take j) := ⟨_, rfl⟩
      have hz0 : 0 ≤ z := by omega
      have hz1 : z + 1 + l[j].uses.length ≤ 9223372036854775000 := by omega
      obtain ⟨b, off, u, rfl, k0, k1, -, hu⟩ := hcs j (by omega)
      have hmk : (mkS k l)[j]'(by omega) = mkStem z l[j] := by rw [mkS_get k l j hlt, hz]
      rw [hmk] at k0 hu
      rw [← hz]
      have HZ := Lib.hid hz
      simp only [mkStem] at k0 hu
      obtain ⟨ua, uc, rfl, hul, huc, -⟩ := hu.shape
      have HU := Lib.hid hu
      have hlo := cell_lt k0
      have hlI : (j : Int) < (l.length : Int) := by omega
      have q0 : ((mtext z).toList == (mtext z).toList) = true := by simp
      have d0 := cell_below HB0.out k0
      have Hk1 := Lib.hid k1
      unfold maxLen at huc
      clear hz hmk hcs hu hb k1 k0
      go_wp2_with fail
      go_region_held3 (fun w' => w'.cell? ⟨b, off + j * 2, none⟩ = some (.string (mtext z)) ∧ Below w.heap.size w w')
        (first | exact ⟨d0, HB0.out.drew⟩ | exact ⟨(hbx.cell (p := ⟨b, off + j * 2, none⟩) (Nat.lt_of_lt_of_le hlo HB0.out.size)).trans d0, HB0.out.drew.trans (hbx.mono HB0.out.size)⟩)
        (first | (go_at_call 53; refine (markText_any _ _ (by omega)).mono ?_; rintro e w1 ⟨rfl, hbx⟩))
      have HB1 := Lib.hid (HB0.out.drew.trans (hbx.mono HB0.out.size))
      have d1 := cell_below HB1.out Hk1.out
      have HU1 := Lib.hid (HU.out.below HB1.out)
      clear d0 hbx
      go_wp2_with fail
      refine (heldStringS_any _ l[j].uses (z + 1) _ HU1.out (by omega) (by omega)).mono ?_
      rintro e w2 ⟨rfl, hb2⟩
      have HB2 := Lib.hid (HB1.out.trans (hb2.mono HB1.out.size))
      have hneg : ¬ (z + 1 + (l[j].uses.length : Int) < 0) := by omega
      clear hb2
      go_wp2
      go_roundw
      case rel => exact ⟨j + 1, by omega, by go_num, by have := HZ.out; rw [hust]; push_cast; rw [← Int.add_assoc, ← Int.add_assoc, ← this], HB2.out⟩
      case measure => simp [intOf]; omega
    · go_wp2
      go_ret
      obtain rfl : j = l.length := by omega
      rw [List.take_length]
      exact ⟨rfl, HB0.out⟩
set_option maxHeartbeats 8000000 in
set_option maxRecDepth 20000 in
theorem markDerivationS_any (v : Value) (l : List StemD) (us : List Value) (og : Nat) (q : Nat → Nat) (lo hi : Nat) (k : Int) (w : World) (hv : StX 41 w og q us v l) (h1 : lo ≤ og ∧ og < hi) (h2 : ∀ j, j < l.length → lo ≤ q j ∧ q j < hi) (hk0 : 0 ≤ k) (hk1 : k + useN l ≤ 9223372036854775000) :
    Calls Tryd.prog 22 #[v, .int .i64 k] w fun e w' => e = .returned (.int .i64 (k + useN l)) ∧ StX 41 w' og q us v (mkS k l) ∧ Kept lo hi w w' ∧ (∀ b, b < w.heap.size → b ≠ og → (∀ j, j < l.length → b ≠ q j) → w'.heap[b]? = w.heap[b]?) := by
  obtain ⟨a, c, hve, hl, hc, -⟩ := hv.stems.shape
  unfold maxLen at hc
  subst hve
  have HV := Lib.hid hv
  have H2 := Lib.hid h2
  have hML := mkS_len k l
  clear hv h2
  go_enter Tryd.func22, Tryd.ntmps22
  go_wp2
  go_loopw [1, 5] (fun t i wr => ∃ j : Nat, j ≤ l.length ∧ i = .int .i64 j ∧ t = .int .i64 (k + useN (l.take j)) ∧ Hid (StX 41 wr og q us (.slice a l.length c) (mixT (mkS k l) l j)) ∧ Hid (Kept lo hi w wr) ∧ Hid (∀ b, b < w.heap.size → b ≠ og → (∀ j, j < l.length → b ≠ q j) → wr.heap[b]? = w.heap[b]?)) (fun _ i _ => l.length - (intOf i).toNat)
  case atStart => exact ⟨0, Nat.zero_le _, rfl, by simp [useN], by rw [mixT_zero]; exact HV, Lib.hid (Kept.refl _ _ _), Lib.hid (fun _ _ _ _ => rfl)⟩
  case round =>
    obtain ⟨j, hj, rfl, rfl, HS, HK, HO⟩ := hrel
    by_cases hlt : j < l.length
    · have hlen := mixT_len (mkS k l) l hML j hj
      have hget := mixT_get (mkS k l) l hML j hlt (by omega)
      have hlI : (j : Int) < (l.length : Int) := by omega
      have hust := useN_take l j hlt
      have husl := useN_le l (j + 1)
      obtain ⟨z, hz⟩ : ∃ z : Int, z = k + useN (l.take j) := ⟨_, rfl⟩
      have hz0 : 0 ≤ z := by omega
      have hz1 : z + 1 + l[j].uses.length ≤ 9223372036854775000 := by omega
      rw [← hz]
      have HZ := Lib.hid hz
      obtain ⟨g, off, c', e1, hg1, hg2⟩ := HS.out.out.own (by omega)
      obtain ⟨rfl, -, rfl⟩ := Value.slice.inj e1
      obtain rfl : g = og := by omega
      clear e1 hz
      go_wp2_with fail
      refine (markText_any _ _ (by omega)).mono ?_
      rintro e w1 ⟨rfl, hb1⟩
      have hs1 := HS.out.below hb1
      have HK1 := Lib.hid (HK.out.trans (Kept.of_below (lo := lo) (hi := hi) hb1))
      have HO1 := Lib.hid (fun b (hb : b < w.heap.size) h1 h2 => (hb1.block b (Nat.lt_of_lt_of_le hb HK.out.size)).trans (HO.out b hb h1 h2))
      clear hb1
      obtain ⟨-, ua0, uc0, k0, f0, -⟩ := hs1.at j (by omega)
      have hs2 := hs1.setWord j (by omega) (mtext z) (mtext_le _ (by omega))
      obtain ⟨-, ua, uc, -, -, k1, hus, hu, hul, huc⟩ := hs2.at j (by rw [List.length_set]; omega)
      simp only [List.getElem_set_self, hget] at k0 k1 hus hu hul
      have HS2 := Lib.hid hs2
      have HU := Lib.hid hu
      have HUS := Lib.hid hus
      have HK2 := Lib.hid (HK1.out.trans (kept_setCell (o := off + j * 2) h1.1 h1.2 (.string (mtext z))))
      unfold maxLen at hul huc
      clear hs1 hs2 hu hus
      go_wp2_with fail
      refine (markStringS_any _ l[j].uses (z + 1) (q j) (q j + 1) _ HU.out (by omega) (by omega)).mono ?_
      rintro e w3 ⟨rfl, hm, hk3⟩
      have hs3 := HS2.out.setUses j (by rw [List.length_set]; omega) _ HUS.out _ hk3 hm
      rw [List.getElem_set_self, List.set_set] at hs3
      have HS3 : Hid (StX 41 w3 g q us (.slice (some ⟨g, off, none⟩) l.length c) (mixT (mkS k l) l (j + 1))) := Lib.hid (by
        have e2 := mixT_set (mkS k l) l hML j hlt (by omega)
        rw [mkS_get k l j hlt, ← HZ.out] at e2
        rw [← e2]
        exact hs3)
      have HO3 : Hid (∀ b, b < w.heap.size → b ≠ g → (∀ j, j < l.length → b ≠ q j) → w3.heap[b]? = w.heap[b]?) := Lib.hid (fun b hb h1 h2 => (hk3.block b (Nat.lt_of_lt_of_le hb HK2.out.size) (by have := h2 j hlt; omega)).trans ((Below.heap_setCell _ _ _ _ (by show b ≠ g; exact h1)).trans (HO1.out b hb h1 h2)))
      have HK3 := Lib.hid (HK2.out.trans (hk3.mono (H2.out j hlt).1 (by have := (H2.out j hlt).2; omega)))
      clear hs3 hk3 hm HU HUS HS2 k0 k1 f0
      go_wp2
      go_roundw
      case rel => exact ⟨j + 1, by omega, by go_num, by have := HZ.out; rw [hust]; push_cast; rw [← Int.add_assoc, ← Int.add_assoc, ← this], HS3, HK3, HO3⟩
      case measure => simp [intOf]; omega
    · go_wp2
      go_ret
      obtain rfl : j = l.length := by omega
      have h := HS.out
      rw [mixT_all _ _ hML] at h
      rw [List.take_length]
      exact ⟨rfl, h, HK.out, HO.out⟩
set_option maxHeartbeats 8000000 in
set_option maxRecDepth 20000 in
theorem heldDerivationS_any (v : Value) (l : List StemD) (k : Int) (w : World) (hv : Stems w v (mkS k l)) (hk0 : 0 ≤ k) (hk1 : k + useN l ≤ 9223372036854775000) :
    Calls Tryd.prog 23 #[v, .int .i64 k] w fun e w' => e = .returned (.int .i64 (k + useN l)) ∧ Below w.heap.size w w' := by
  obtain ⟨a, c, rfl, hl, hc, hcs⟩ := hv.shape
  unfold maxLen at hc
  have hML := mkS_len k l
  rw [hML] at hl
  simp only [hML] at hcs ⊢
  clear hv
  go_enter Tryd.func23, Tryd.ntmps23
  go_wp2
  go_loopw [1, 5] (fun t i wr => ∃ j : Nat, j ≤ l.length ∧ i = .int .i64 j ∧ t = .int .i64 (k + useN (l.take j)) ∧ Below w.heap.size w wr) (fun _ i _ => l.length - (intOf i).toNat)
  case atStart => exact ⟨0, Nat.zero_le _, rfl, by simp [useN], Below.refl _ _⟩
  case round =>
    obtain ⟨j, hj, rfl, rfl, hb⟩ := hrel
    have HB0 := Lib.hid hb
    by_cases hlt : j < l.length
    · have hust := useN_take l j hlt
      have husl := useN_le l (j + 1)
      obtain ⟨z, hz⟩ : ∃ z : Int, z = k + useN (l.take j) := ⟨_, rfl⟩
      have hz0 : 0 ≤ z := by omega
      have hz1 : z + 1 + l[j].uses.length ≤ 9223372036854775000 := by omega
      obtain ⟨b, off, u, rfl, k0, k1, -, hu⟩ := hcs j (by omega)
      have hmk : (mkS k l)[j]'(by omega) = mkStem z l[j] := by rw [mkS_get k l j hlt, hz]
      rw [hmk] at k0 hu
      rw [← hz]
      have HZ := Lib.hid hz
      simp only [mkStem] at k0 hu
      obtain ⟨ua, uc, rfl, hul, huc, -⟩ := hu.shape
      have HU := Lib.hid hu
      have hlo := cell_lt k0
      have hlI : (j : Int) < (l.length : Int) := by omega
      have q0 : ((mtext z).toList == (mtext z).toList) = true := by simp
      have d0 := cell_below HB0.out k0
      have Hk1 := Lib.hid k1
      unfold maxLen at huc
      clear hz hmk hcs hu hb k1 k0
      go_wp2_with fail
      go_region_held3 (fun w' => w'.cell? ⟨b, off + j * 2, none⟩ = some (.string (mtext z)) ∧ Below w.heap.size w w')
        (first | exact ⟨d0, HB0.out.drew⟩ | exact ⟨(hbx.cell (p := ⟨b, off + j * 2, none⟩) (Nat.lt_of_lt_of_le hlo HB0.out.size)).trans d0, HB0.out.drew.trans (hbx.mono HB0.out.size)⟩)
        (first | (go_at_call 53; refine (markText_any _ _ (by omega)).mono ?_; rintro e w1 ⟨rfl, hbx⟩))
      have HB1 := Lib.hid (HB0.out.drew.trans (hbx.mono HB0.out.size))
      have d1 := cell_below HB1.out Hk1.out
      have HU1 := Lib.hid (HU.out.below HB1.out)
      clear d0 hbx
      go_wp2_with fail
      refine (heldStringS_any _ l[j].uses (z + 1) _ HU1.out (by omega) (by omega)).mono ?_
      rintro e w2 ⟨rfl, hb2⟩
      have HB2 := Lib.hid (HB1.out.trans (hb2.mono HB1.out.size))
      have hneg : ¬ (z + 1 + (l[j].uses.length : Int) < 0) := by omega
      clear hb2
      go_wp2
      go_roundw
      case rel => exact ⟨j + 1, by omega, by go_num, by have := HZ.out; rw [hust]; push_cast; rw [← Int.add_assoc, ← Int.add_assoc, ← this], HB2.out⟩
      case measure => simp [intOf]; omega
    · go_wp2
      go_ret
      obtain rfl : j = l.length := by omega
      rw [List.take_length]
      exact ⟨rfl, HB0.out⟩
set_option maxHeartbeats 4000000 in
set_option maxRecDepth 20000 in
theorem markGrammar_any (v : Value) (x : GraD) (k : Int) (lo hi : Nat) (w : World) (hv : GraX w lo hi v x) (hk0 : 0 ≤ k) (hk1 : k + cntG x ≤ 9223372036854775000) (hh : hi ≤ w.heap.size) :
    Calls Tryd.prog 21 #[v, .int .i64 k] w fun e w' => e = .returned (.int .i64 (k + cntG x)) ∧ GraX w' lo hi v (marksG k x) ∧ Kept lo hi w w' := by
  obtain ⟨s1, s2, ab, og, q, us, rfl, h1, h2, h3, h4, h5, h6⟩ := hv
  obtain ⟨a1, c1, rfl, -, -, -⟩ := h1.read.shape
  obtain ⟨a2, c2, rfl, -, -, -⟩ := h2.stems.shape
  have hcnt : cntG x = 5 * x.affixes.length + useN x.stems := rfl
  have hb0 : Below w.heap.size w (w.alloc (.cells #[.slice a1 x.affixes.length c1, .slice a2 x.stems.length c2] 31)) := (Below.refl _ _).alloc (Nat.le_refl _) _
  have d0 := cell_newi w #[.slice a1 x.affixes.length c1, .slice a2 x.stems.length c2] 31 0 (.slice a1 x.affixes.length c1) rfl
  have d1 := cell_newi w #[.slice a1 x.affixes.length c1, .slice a2 x.stems.length c2] 31 1 (.slice a2 x.stems.length c2) rfl
  have hsz : (w.alloc (.cells #[.slice a1 x.affixes.length c1, .slice a2 x.stems.length c2] 31)).heap.size = w.heap.size + 1 := by simp
  have H1 := Lib.hid (h1.below hb0)
  have H2 := Lib.hid (h2.below hb0)
  have H6 := Lib.hid h6
  have HK0 := Lib.hid (Kept.of_below (lo := lo) (hi := hi) hb0)
  clear hb0 h6 h1 h2
  go_enter Tryd.func21, Tryd.ntmps21
  go_wp2_with fail
  refine (markAffixS_any _ x.affixes k ab (ab + 1) _ H1.out hk0 (by omega)).mono ?_
  rintro e w1 ⟨rfl, hm1, hk1'⟩
  have HM1 := Lib.hid hm1
  have HK1 := Lib.hid (HK0.out.trans (hk1'.mono h3.1 (by omega)))
  have e1 := cell_kept hk1' d1 (by show w.heap.size < _ ∨ _ ≤ w.heap.size; omega)
  have H2b := Lib.hid (H2.out.kept hk1' (by omega) (fun j hj => by have := H6.out j hj; omega))
  have hsz1 := hk1'.size
  rw [hsz] at hsz1
  clear hm1 hk1' d0 d1 hsz H2
  go_wp2_with fail
  refine (markStemS_any _ x.stems us og q lo hi (k + 5 * x.affixes.length) _ H2b.out h4 (fun j hj => ⟨(H6.out j hj).1, (H6.out j hj).2.1⟩) (by omega) (by omega)).mono ?_
  rintro e w2 ⟨rfl, hm2, hk2, ho2⟩
  have HM1b := Lib.hid (HM1.out.of_block (ho2 ab (by omega) h5 (fun j hj => Ne.symm (H6.out j hj).2.2)))
  have HM2 := Lib.hid hm2
  have HK2 := Lib.hid (HK1.out.trans hk2)
  clear hm2 hk2 ho2 e1
  go_wp2
  go_ret
  refine ⟨ret_int (by rw [hcnt]; push_cast; omega), ⟨_, _, ab, og, q, us, rfl, HM1b.out, HM2.out, h3, h4, h5, fun j hj => H6.out j (by simpa [marksG, mkS_len] using hj)⟩, HK2.out⟩
set_option maxHeartbeats 4000000 in
set_option maxRecDepth 20000 in
theorem heldGrammar_any (v : Value) (x : GraD) (k : Int) (w : World) (hv : GraR w v (marksG k x)) (hk0 : 0 ≤ k) (hk1 : k + cntG x ≤ 9223372036854775000) :
    Calls Tryd.prog 28 #[v, .int .i64 k] w fun e w' => e = .returned (.int .i64 (k + cntG x)) ∧ Below w.heap.size w w' := by
  obtain ⟨s1, s2, rfl, h1, h2⟩ := hv
  obtain ⟨a1, c1, rfl, -, -, -⟩ := h1.shape
  obtain ⟨a2, c2, rfl, -, -, -⟩ := h2.shape
  have hcnt : cntG x = 5 * x.affixes.length + useN x.stems := rfl
  have hla : (marksG k x).affixes.length = x.affixes.length := mkAs_length _ _
  have hls : (marksG k x).stems.length = x.stems.length := mkS_len _ _
  rw [hla] at h1 ⊢
  rw [hls] at h2 ⊢
  have hb0 : Below w.heap.size w (w.alloc (.cells #[.slice a1 x.affixes.length c1, .slice a2 x.stems.length c2] 31)) := (Below.refl _ _).alloc (Nat.le_refl _) _
  have d0 := cell_newi w #[.slice a1 x.affixes.length c1, .slice a2 x.stems.length c2] 31 0 (.slice a1 x.affixes.length c1) rfl
  have d1 := cell_newi w #[.slice a1 x.affixes.length c1, .slice a2 x.stems.length c2] 31 1 (.slice a2 x.stems.length c2) rfl
  have H1 := Lib.hid (h1.below hb0)
  have H2 := Lib.hid (h2.below hb0)
  have HB0 := Lib.hid hb0
  have hneg : ¬ (k + 5 * (x.affixes.length : Int) < 0) := by omega
  have hneg2 : ¬ (k + 5 * (x.affixes.length : Int) + (useN x.stems : Int) < 0) := by omega
  clear hb0 h1 h2 hla hls
  go_enter Tryd.func28, Tryd.ntmps28
  go_wp2_with fail
  refine (heldAffixS_any _ x.affixes.length k _ H1.out hk0 (by omega)).mono ?_
  rintro e w1 ⟨rfl, hb1⟩
  have e1 := cell_below hb1 d1
  have HB1 := Lib.hid (HB0.out.trans (hb1.mono HB0.out.size))
  have H2b := Lib.hid (H2.out.below hb1)
  clear hb1 d0 d1
  go_wp2_with fail
  refine (heldStemS_any _ x.stems (k + 5 * x.affixes.length) _ H2b.out (by omega) (by omega)).mono ?_
  rintro e w2 ⟨rfl, hb2⟩
  have HB2 := Lib.hid (HB1.out.trans (hb2.mono HB1.out.size))
  clear hb2
  go_wp2
  go_ret
  exact ⟨ret_int (by rw [hcnt]; push_cast; omega), HB2.out⟩
end Go.Proofs.YtgefgdkejenhnaaDoor

