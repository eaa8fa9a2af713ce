/- toGrammar: the grammar that it makes lies in blocks of its own, each list in one. No condition but the readings. -/
import Derived.Test.YtgefgdkejenhnaaDoorMs
set_option linter.unusedSimpArgs false
namespace Go.Proofs.YtgefgdkejenhnaaDoor
open Go.RowKit
attribute [local irreducible] Calls
set_option maxHeartbeats 4000000 in
set_option maxRecDepth 20000 in
theorem toStemX_any (x : StemD) (u : Value) (w : World) (hu : Strs w u x.uses) (hn : x.uses.length ≤ 1048576) :
    Calls Tryd.prog 74 #[.agg #[.string x.word, u]] w fun e w' => ∃ u' g, e = .returned (.agg #[.string x.word, u']) ∧ (w.heap.size ≤ g ∧ g < w'.heap.size) ∧ StrsW w' g (g + 1) u' x.uses ∧ Below w.heap.size w w' := by
  have hb0 : Below w.heap.size w (((w.alloc (.cells #[.string x.word, u] 106)).alloc (.cells #[.string ⟨#[]⟩, .slice none 0 0] 67)).alloc (.cells #[.string x.word, .slice none 0 0] 67)) := (((Below.refl _ _).alloc (Nat.le_refl _) _).alloc (by simp) _).alloc (by simp; omega) _
  have r1 := heap3_1 w (.cells #[.string x.word, u] 106) (.cells #[.string ⟨#[]⟩, .slice none 0 0] 67) (.cells #[.string x.word, .slice none 0 0] 67)
  have r2 := heap3_2 w (.cells #[.string x.word, u] 106) (.cells #[.string ⟨#[]⟩, .slice none 0 0] 67) (.cells #[.string x.word, .slice none 0 0] 67)
  have HB0 := Lib.hid hb0
  go_enter Tryd.func74, Tryd.ntmps74
  go_wp2_with fail
  refine (toStringS_any u x.uses _ (hu.below hb0) hn).mono ?_
  rintro e w1 ⟨u', rfl, hu', hb1⟩
  obtain ⟨ua, uc, rfl, -, -, -⟩ := hu'.read.shape
  have hz1 : w.heap.size + 3 ≤ w1.heap.size := by have := hb1.size; simpa using this
  have R1 := Lib.hid ((hb1.block (w.heap.size + 1) (by simp)).trans r1)
  have R2 := Lib.hid ((hb1.block (w.heap.size + 1 + 1) (by simp)).trans r2)
  have HB1 := Lib.hid (HB0.out.trans (hb1.mono HB0.out.size))
  have HU := Lib.hid (hu'.mono (lo' := w.heap.size + 3) (hi' := w1.heap.size) (by simp) (Nat.le_refl _))
  obtain ⟨d0, y0⟩ := cell_of_heap (i := 0) (v := .string x.word) R2.out rfl
  obtain ⟨d1, y1⟩ := cell_of_heap (i := 1) (v := .slice none 0 0) R2.out rfl
  obtain ⟨e0, z0⟩ := cell_of_heap (i := 0) (v := .string ⟨#[]⟩) R1.out rfl
  obtain ⟨e1, z1⟩ := cell_of_heap (i := 1) (v := .slice none 0 0) R1.out rfl
  have n1 : ¬ (w.heap.size + 1 = w.heap.size + 1 + 1) := by omega
  have n2 : ¬ (w.heap.size + 1 + 1 = w.heap.size + 1) := by omega
  clear hb1 hu' r1 r2 hb0
  go_wp2
  have hk3 : Kept (w.heap.size + 1 + 1) (w.heap.size + 1 + 1 + 1) w1 (w1.setCell ⟨w.heap.size + 1 + 1, 1, none⟩ (.slice ua x.uses.length uc)) := kept_setCell (Nat.le_refl _) (Nat.lt_succ_self _) _
  have st := store2 ((hk3.block (w.heap.size + 1) (by omega) (.inl (by omega))).trans R1.out) (.string x.word) (.slice ua x.uses.length uc)
  have hz9 : w1.heap.size ≤ (((w1.setCell ⟨w.heap.size + 1 + 1, 1, none⟩ (.slice ua x.uses.length uc)).setCell ⟨w.heap.size + 1, 0, none⟩ (.string x.word)).setCell ⟨w.heap.size + 1, 1, none⟩ (.slice ua x.uses.length uc)).heap.size := by rw [st.2.2]; exact hk3.size
  obtain ⟨g, hg, hx⟩ := ((HU.out.kept hk3 (.inr (by omega))).kept st.2.1 (.inr (by omega))).exact w.heap.size
  refine bodyPost_ret (v := .agg #[.string x.word, (.slice ua x.uses.length uc)]) (results_cell_row (p := 2) (ty := 67) rfl _ _ (w.heap.size + 1) _ _ _ _ rfl st.1 Tryd.underlying67 rfl infoStem) rfl
    ⟨.slice ua x.uses.length uc, g, rfl, ⟨by omega, by omega⟩, hx, (HB1.out.trans (hk3.below (by omega) HB1.out.size)).trans (st.2.1.below (by omega) (by have := HB1.out.size; have := hk3.size; omega))⟩
set_option maxHeartbeats 4000000 in
set_option maxRecDepth 20000 in
theorem toStemSX_any (v : Value) (l : List StemD) (w : World) (hv : Stems w v l) (hn : l.length ≤ 1048576) (hlim : ∀ x ∈ l, x.uses.length ≤ 1048576) :
    Calls Tryd.prog 33 #[v] w fun e w' => ∃ s og q us, e = .returned s ∧ StX 67 w' og q us s l ∧ (w.heap.size ≤ og ∧ og < w'.heap.size) ∧ (∀ j, j < l.length → w.heap.size ≤ q j ∧ q j < w'.heap.size) ∧ Below w.heap.size w w' := by
  obtain ⟨a, c, rfl, hl, hc, hcs⟩ := hv.shape
  have Hlim := Lib.hid hlim
  unfold maxLen at hc
  have Hwl := Lib.hid (fun j (h : j < l.length) => by obtain ⟨_, _, _, _, _, _, h5, _⟩ := hcs j h; exact h5 : ∀ j (h : j < l.length), l[j].word.size ≤ maxLen)
  clear hv hlim
  have hmk := make_stems l.length hn
  have hw0 : SlW (w.alloc (.cells (madeCells (stemL nilS).toArray (l.length * 2)) 67)) w.heap.size (w.heap.size + 1) 67 2 (.slice (some ⟨w.heap.size, 0, none⟩) l.length l.length) l.length ((pairsTo l []).flatMap stemL) := by
    have hrow := toList_made (stemL nilS).toArray l.length (by simp [stemL])
    have hsz : (stemL nilS).toArray.size = 2 := rfl
    rw [hsz] at hrow
    refine ⟨by rw [flat_len stemL 2 stemL_len, pairsTo_length _ _ (Nat.zero_le _)], _, _, rfl, Nat.le_refl _, by unfold maxLen; omega, .inr ⟨w.heap.size, 0, _, rfl, Nat.le_refl _, Nat.lt_succ_self _, heap_alloc_new w _, by rw [size_madeCells]; omega, ?_⟩⟩
    rw [List.drop_zero, List.take_of_length_le (by rw [Array.length_toList, size_madeCells]; exact Nat.le_refl _), hrow]
    simp [pairsTo, List.flatMap_def, List.map_replicate]
  have HW0 := Lib.hid hw0
  have HB0 := Lib.hid ((Below.refl w.heap.size w).alloc (Nat.le_refl _) (.cells (madeCells (stemL nilS).toArray (l.length * 2)) 67))
  clear hw0
  go_enter Tryd.func33, Tryd.ntmps33
  go_wp2
  clear hmk
  go_loopw [4] (fun i wr => ∃ us : List Value, us.length ≤ l.length ∧ i = .int .i64 (us.length : Int) ∧ Hid (SlW wr w.heap.size (w.heap.size + 1) 67 2 (.slice (some ⟨w.heap.size, 0, none⟩) l.length l.length) l.length ((pairsTo l us).flatMap stemL)) ∧ Hid (Below w.heap.size w wr) ∧ w.heap.size + 1 ≤ wr.heap.size ∧
    ∃ q : Nat → Nat, Hid (∀ j, j < us.length → w.heap.size + 1 ≤ q j ∧ q j < wr.heap.size) ∧ Hid (∀ i j, i < j → j < us.length → q i < q j) ∧ Hid (∀ j (h : j < us.length) (h' : j < l.length), StrsW wr (q j) (q j + 1) us[j] l[j].uses)) (fun i _ => l.length - (intOf i).toNat)
  case atStart => exact ⟨[], Nat.zero_le _, rfl, HW0, HB0, by simp, fun _ => 0, Lib.hid (fun j h => by simp at h), Lib.hid (fun i j _ h => by simp at h), Lib.hid (fun j h => by simp at h)⟩
  case round =>
    obtain ⟨us, hj, rfl, HW, HB, hsz, q, HQ, HQI, HUS⟩ := hrel
    by_cases hlt : us.length < l.length
    · obtain ⟨j, hjd⟩ : ∃ j, j = us.length := ⟨_, rfl⟩
      rw [← hjd] at hlt hj ⊢
      have HJ := Lib.hid hjd
      obtain ⟨b, off, u, rfl, k0, k1, -, hu⟩ := hcs j hlt
      have d0 := cell_below HB.out k0
      have d1 := cell_below HB.out k1
      have Hu := Lib.hid (hu.below HB.out)
      have Hcs := Lib.hid hcs
      have hltI : (j : Int) < (l.length : Int) := by omega
      clear hcs k0 k1 hu hjd
      go_wp2_with fail
      refine (toStemX_any l[j] u _ Hu.out (Hlim.out _ (List.getElem_mem _))).mono ?_
      rintro e w2 ⟨u', gq, rfl, hgq, hu', hb2⟩
      obtain ⟨ua, uc, rfl, -, -, -⟩ := hu'.read.shape
      have HB2 := Lib.hid (HB.out.trans (hb2.mono HB.out.size))
      have hz2 := hb2.size
      have hw2 := HW.out.below hb2
      have HUQ := Lib.hid hu'
      have HUS2 := Lib.hid (fun j h h' => (HUS.out j h h').below hb2)
      have hfl := pairsTo_length l us (by have := HJ.out; omega)
      have hpg : ∀ h, (pairsTo l us)[j]'h = nilS := by
        have := HJ.out
        subst this
        exact fun h => pairsTo_get l us hlt h
      obtain ⟨e0, z0, -, -⟩ := hw2.at (j := j * 2) (by omega)
      have E0 : w2.cell? ⟨w.heap.size, j * 2, none⟩ = some (.string ⟨#[]⟩) := by
        rw [Nat.zero_add] at e0
        rw [e0, show j * 2 = j * 2 + 0 from rfl, flat_get stemL 2 stemL_len _ j (by rw [hfl]; exact hlt) 0 (by omega), hpg]
        rfl
      have Z0 : w2.frozen? ⟨w.heap.size, j * 2, none⟩ = false := by rw [Nat.zero_add] at z0; exact z0
      have t0 := hw2.setC (j := j * 2) (by omega) (.string l[j].word)
      rw [Nat.zero_add] at t0
      obtain ⟨e1, z1, -, -⟩ := t0.at (j := j * 2 + 1) (by omega)
      have E1 : (w2.setCell ⟨w.heap.size, j * 2, none⟩ (.string l[j].word)).cell? ⟨w.heap.size, j * 2 + 1, none⟩ = some (.slice none 0 0) := by
        rw [Nat.zero_add] at e1
        rw [e1, List.getElem?_set_ne (by omega), flat_get stemL 2 stemL_len _ j (by rw [hfl]; exact hlt) 1 (by omega), hpg]
        rfl
      have Z1 : (w2.setCell ⟨w.heap.size, j * 2, none⟩ (.string l[j].word)).frozen? ⟨w.heap.size, j * 2 + 1, none⟩ = false := by rw [Nat.zero_add] at z1; exact z1
      have t1 := t0.setC (j := j * 2 + 1) (by omega) (.slice ua l[j].uses.length uc)
      rw [Nat.zero_add, flat_set2 _ j (by rw [hfl]; exact hlt) (l[j], (.slice ua l[j].uses.length uc))] at t1
      have hps : (pairsTo l us).set j (l[j], (.slice ua l[j].uses.length uc)) = pairsTo l (us ++ [(.slice ua l[j].uses.length uc)]) := by
        have := HJ.out
        subst this
        exact pairsTo_succ l us _ hlt
      rw [hps] at t1
      have HST := Lib.hid t1
      have HKB := Lib.hid ((kept_setCell (w := w2) (lo := w.heap.size) (hi := w.heap.size + 1) (o := j * 2) (Nat.le_refl _) (Nat.lt_succ_self _) (.string l[j].word)).trans (kept_setCell (o := j * 2 + 1) (Nat.le_refl _) (Nat.lt_succ_self _) (.slice ua l[j].uses.length uc)))
      clear hb2 hw2 d0 d1 hu' e0 e1 z0 z1 t0 t1 hps hpg
      go_wp2
      go_roundw
      case rel =>
        have hz3 := HKB.out.size
        refine ⟨us ++ [(.slice ua l[j].uses.length uc)], by have := HJ.out; simp; omega, by have := HJ.out; rw [List.length_append, List.length_singleton, ← this]; go_num, HST, Lib.hid (HB2.out.trans (HKB.out.below (Nat.le_refl _) HB2.out.size)), by omega, fun i => if i = us.length then gq else q i, Lib.hid (fun i hi => ?_), Lib.hid (fun i k hik hk => ?_), Lib.hid fun i hi hi' => ?_⟩
        · by_cases h : i = us.length
          · simp only [if_pos h]; omega
          · simp only [if_neg h]; have := HQ.out i (by simp at hi; omega); omega
        · simp only [List.length_append, List.length_singleton] at hk
          show (if i = us.length then gq else q i) < (if k = us.length then gq else q k)
          rw [if_neg (show ¬ i = us.length by omega)]
          by_cases h : k = us.length
          · rw [if_pos h]; have := HQ.out i (by omega); omega
          · rw [if_neg h]; exact HQI.out i k hik (by omega)
        by_cases h : i < us.length
        · rw [List.getElem_append_left h]
          simp only [if_neg (Nat.ne_of_lt h)]
          exact (HUS2.out i h hi').kept HKB.out (.inr (by have := HQ.out i h; omega))
        · have hij : i = us.length := by simp at hi; omega
          subst hij
          rw [List.getElem_append_right (Nat.le_refl _)]
          have hj2 := HJ.out
          simp only [Nat.sub_self, List.getElem_cons_zero, if_true]
          have hh := HUQ.out.kept HKB.out (.inr (by omega))
          simpa only [hj2] using hh
      case measure => simp [intOf]; omega
    · go_wp2
      go_ret
      have hjl : us.length = l.length := by omega
      have hw := HW.out
      have hp : pairsTo l us = l.zip us := by unfold pairsTo; rw [hjl]; simp
      rw [hp] at hw
      refine ⟨_, w.heap.size, q, us, rfl, ⟨hjl, hw, fun x hx => ?_, fun i hi hi' => HUS.out i hi' hi, fun i hi => by have := HQ.out i (by omega); omega, fun i k hi hk e => ?_⟩, ⟨Nat.le_refl _, by omega⟩, fun i hi => by have := HQ.out i (by omega); omega, HB.out⟩
      · obtain ⟨i, hi, rfl⟩ := List.getElem_of_mem hx
        exact Hwl.out i hi
      · rcases Nat.lt_trichotomy i k with h | h | h
        · have := HQI.out i k h (by omega); omega
        · exact h
        · have := HQI.out k i h (by omega); omega
set_option maxHeartbeats 4000000 in
set_option maxRecDepth 20000 in
theorem toGrammarX_any (v : Value) (x : GraD) (w : World) (hv : GraR w v x) (hn : GraLim x) :
    Calls Tryd.prog 10 #[v] w fun e w' => ∃ s, e = .returned s ∧ GraX w' w.heap.size w'.heap.size s x ∧ Below w.heap.size w w' := by
  obtain ⟨s1, s2, rfl, h1, h2⟩ := hv
  have hb0 : Below w.heap.size w (((w.alloc (.cells #[s1, s2] 25)).alloc (.cells #[.slice none 0 0, .slice none 0 0] 31)).alloc (.cells #[.slice none 0 0, .slice none 0 0] 31)) := (((Below.refl _ _).alloc (Nat.le_refl _) _).alloc (by simp) _).alloc (by simp; omega) _
  have r0 := heap3_0 w (.cells #[s1, s2] 25) (.cells #[.slice none 0 0, .slice none 0 0] 31) (.cells #[.slice none 0 0, .slice none 0 0] 31)
  have r1 := heap3_1 w (.cells #[s1, s2] 25) (.cells #[.slice none 0 0, .slice none 0 0] 31) (.cells #[.slice none 0 0, .slice none 0 0] 31)
  have r2 := heap3_2 w (.cells #[s1, s2] 25) (.cells #[.slice none 0 0, .slice none 0 0] 31) (.cells #[.slice none 0 0, .slice none 0 0] 31)
  have HB0 := Lib.hid hb0
  go_enter Tryd.func10, Tryd.ntmps10
  go_wp2_with fail
  refine (toAffixS_any s1 x.affixes _ (h1.below hb0) hn.a hn.l).mono ?_
  rintro e w1 ⟨u1, rfl, hu1, hb1⟩
  obtain ⟨ua, uc, rfl, -, -, -⟩ := hu1.read.shape
  have hz1 : w.heap.size + 3 ≤ w1.heap.size := by have := hb1.size; simpa using this
  have R0 := Lib.hid ((hb1.block w.heap.size (by simp; omega)).trans r0)
  have R1 := Lib.hid ((hb1.block (w.heap.size + 1) (by simp)).trans r1)
  have R2 := Lib.hid ((hb1.block (w.heap.size + 1 + 1) (by simp)).trans r2)
  have HB1 := Lib.hid (HB0.out.trans (hb1.mono HB0.out.size))
  have HU1 := Lib.hid (hu1.mono (lo' := w.heap.size + 3) (hi' := w1.heap.size) (by simp) (Nat.le_refl _))
  obtain ⟨c1, x1⟩ := cell_of_heap (i := 1) (v := s2) R0.out rfl
  obtain ⟨d0, y0⟩ := cell_of_heap (i := 0) (v := .slice none 0 0) R2.out rfl
  have n1 : ¬ (w.heap.size + 1 + 1 = w.heap.size) := by omega
  have n2 : ¬ (w.heap.size = w.heap.size + 1 + 1) := by omega
  clear hb1 hu1 r0 r1 r2 hb0
  go_wp2_with fail
  have hk3 : Kept (w.heap.size + 1 + 1) (w.heap.size + 1 + 1 + 1) w1 (w1.setCell ⟨w.heap.size + 1 + 1, 0, none⟩ (.slice ua x.affixes.length uc)) := kept_setCell (Nat.le_refl _) (Nat.lt_succ_self _) _
  have HB2 := Lib.hid (HB1.out.trans (hk3.below (by omega) HB1.out.size))
  have R1b := Lib.hid ((hk3.block (w.heap.size + 1) (by omega) (.inl (by omega))).trans R1.out)
  have R2b := Lib.hid (set_heap (i := 0) (.slice ua x.affixes.length uc) R2.out)
  have HU1b := Lib.hid (HU1.out.kept hk3 (.inr (by omega)))
  have hz2 : (w1.setCell ⟨w.heap.size + 1 + 1, 0, none⟩ (.slice ua x.affixes.length uc)).heap.size = w1.heap.size := by simp [World.setCell]
  clear hk3 c1 x1 d0 y0
  generalize w1.setCell ⟨w.heap.size + 1 + 1, 0, none⟩ (.slice ua x.affixes.length uc) = w2 at HB2 R1b R2b HU1b hz2 ⊢
  refine (toStemSX_any s2 x.stems _ (h2.below HB2.out) hn.s hn.u).mono ?_
  rintro e w3 ⟨u2, og, q, us, rfl, hu2, hog, hqq, hb3⟩
  obtain ⟨va, vc, rfl, -, -, -⟩ := hu2.stems.shape
  have hz3 := hb3.size
  have R1c := Lib.hid ((hb3.block (w.heap.size + 1) (by omega)).trans R1b.out)
  have R2c := Lib.hid ((hb3.block (w.heap.size + 1 + 1) (by omega)).trans R2b.out)
  have HB3 := Lib.hid (HB2.out.trans (hb3.mono HB2.out.size))
  obtain ⟨ab, hab, hux⟩ := (HU1b.out.below hb3).exact (w.heap.size)
  have HU1c := Lib.hid hux
  have hab2 : w.heap.size ≤ ab ∧ ab < w2.heap.size ∧ ab ≠ w.heap.size + 1 ∧ ab ≠ w.heap.size + 1 + 1 := by omega
  clear hux
  have HU2 := Lib.hid hu2
  have HQ := Lib.hid hqq
  obtain ⟨d0, y0⟩ := cell_of_heap (i := 0) (v := (.slice ua x.affixes.length uc)) R2c.out rfl
  obtain ⟨d1, y1⟩ := cell_of_heap (i := 1) (v := .slice none 0 0) R2c.out rfl
  obtain ⟨e0, z0⟩ := cell_of_heap (i := 0) (v := .slice none 0 0) R1c.out rfl
  obtain ⟨e1, z1⟩ := cell_of_heap (i := 1) (v := .slice none 0 0) R1c.out rfl
  have n3 : ¬ (w.heap.size + 1 + 1 = w.heap.size + 1) := by omega
  have n4 : ¬ (w.heap.size + 1 = w.heap.size + 1 + 1) := by omega
  clear hb3 hu2 hqq
  go_wp2
  have hk4 : Kept (w.heap.size + 1 + 1) (w.heap.size + 1 + 1 + 1) w3 (w3.setCell ⟨w.heap.size + 1 + 1, 1, none⟩ (.slice va x.stems.length vc)) := kept_setCell (Nat.le_refl _) (Nat.lt_succ_self _) _
  have st := store2 ((hk4.block (w.heap.size + 1) (by omega) (.inl (by omega))).trans R1c.out) (.slice ua x.affixes.length uc) (.slice va x.stems.length vc)
  have hz4 := hk4.size
  have hz9 := st.2.2
  refine bodyPost_ret (v := .agg #[.slice ua x.affixes.length uc, .slice va x.stems.length vc]) (results_cell_row (p := 2) (ty := 31) rfl _ _ (w.heap.size + 1) _ _ _ _ rfl st.1 Tryd.underlying31 rfl infoGra) rfl
    ⟨_, rfl, ⟨.slice ua x.affixes.length uc, .slice va x.stems.length vc, ab, og, q, us, rfl, (HU1c.out.kept hk4 (by omega)).kept st.2.1 (by omega), (HU2.out.kept hk4 (by omega) (fun j hj => by have := HQ.out j hj; omega)).kept st.2.1 (by omega) (fun j hj => by have := HQ.out j hj; omega), ⟨by omega, by omega⟩, ⟨by omega, by omega⟩, by omega, fun j hj => by have := HQ.out j hj; omega⟩, (HB3.out.trans (hk4.below (by omega) HB3.out.size)).trans (st.2.1.below (by omega) (by have := HB3.out.size; omega))⟩
end Go.Proofs.YtgefgdkejenhnaaDoor
