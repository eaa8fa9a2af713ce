/- FnExactDerivationsOf returns true for all grammars and strings: the program and the reference answer alike, the argument is as it was, and the result shares no memory; and its tied card. No condition but what the row lists. -/
import Derived.Test.YtgefgdkejenhnaaDoorCards
import Derived.Test.YtgefgdkejenhnaaDoorTie
import Derived.Test.YtgefgdkejenhnaaDoorFd
import Derived.Test.YtgefgdkejenhnaaDoorDvR
import Derived.Test.YtgefgdkejenhnaaDoorMv
namespace Go.Proofs.YtgefgdkejenhnaaDoor
open Go.RowKit
theorem useN_two : ∀ l : List StemD, (∀ d ∈ l, d.uses.length ≤ 2) → useN l ≤ 3 * l.length
  | [], _ => by simp [useN]
  | d :: l, h => by
    have h1 := useN_two l fun y hy => h y (List.mem_cons_of_mem _ hy)
    have h2 := h d (List.mem_cons_self ..)
    simp only [useN, List.map_cons, List.sum_cons, List.length_cons] at h1 ⊢
    omega
theorem dofV_useN (g : GraD) (s : ByteArray) : useN (dofV g s) ≤ 30000 := by
  unfold dofV
  split
  · rename_i hg
    split
    · have h1 := derTo_le (graB_okQ hg) g.stems.length 0
      have h2 := ledD_le s (derTo g g.stems.length 0)
      have h3 := useN_two (ledD s (derTo g g.stems.length 0)) fun d hd => by
        obtain ⟨e, he, rfl⟩ := List.mem_map.1 hd
        exact (derL_sizes (graB_okQ hg) e (List.mem_filter.1 he).1).2.1
      show useN (ledD s (derTo g g.stems.length 0)) ≤ _
      omega
    · simp [useN]
  · simp [useN]
set_option maxHeartbeats 4000000 in
set_option maxRecDepth 20000 in
theorem fnExactDerivationsOf_walk (w : World) (v0 : Value) (x0 : GraD) (hv0 : GraR w v0 x0) (x1 : ByteArray) (h1 : x1.size ≤ maxLen) (hML : MaxL w) :
    Calls Tryd.prog 5 #[v0, .string x1] w fun e w' => e = .returned (.bool true) ∧ Below w.heap.size w w' := by
  have HML := Lib.hid hML
  clear hML
  have HA0 := Lib.hid hv0
  obtain ⟨aA0, cA0, bA0, dA0, rfl⟩ := hv0.shape
  have hlim1 : x1.size ≤ maxLen := h1
  unfold maxLen at hlim1
  clear h1
  by_cases h1 : x1.size ≤ 1048576
  rotate_left
  · go_enter Tryd.func5, Tryd.ntmps5
    go_wp2
    go_ret
    exact ⟨rfl, (Below.refl w.heap.size w).alloc (by simp) (.cells #[.slice aA0 x0.affixes.length cA0, .slice bA0 x0.stems.length dA0] 25)⟩
  clear hlim1
  go_enter Tryd.func5, Tryd.ntmps5
  go_wp2_with fail
  have HB0 := (Below.refl w.heap.size w).alloc (by simp) (.cells #[.slice aA0 x0.affixes.length cA0, .slice bA0 x0.stems.length dA0] 25)
  have hcA0_0_0 : (w.alloc (.cells #[.slice aA0 x0.affixes.length cA0, .slice bA0 x0.stems.length dA0] 25)).cell? ⟨w.heap.size, 0, none⟩ = some (.slice aA0 x0.affixes.length cA0) := cell_newi (w) #[.slice aA0 x0.affixes.length cA0, .slice bA0 x0.stems.length dA0] 25 0 (.slice aA0 x0.affixes.length cA0) rfl
  have hcA0_1_0 : (w.alloc (.cells #[.slice aA0 x0.affixes.length cA0, .slice bA0 x0.stems.length dA0] 25)).cell? ⟨w.heap.size, 1, none⟩ = some (.slice bA0 x0.stems.length dA0) := cell_newi (w) #[.slice aA0 x0.affixes.length cA0, .slice bA0 x0.stems.length dA0] 25 1 (.slice bA0 x0.stems.length dA0) rfl
  have hz0 : (w.alloc (.cells #[.slice aA0 x0.affixes.length cA0, .slice bA0 x0.stems.length dA0] 25)).heap.size = w.heap.size + 1 := by simp
  generalize w.alloc (.cells #[.slice aA0 x0.affixes.length cA0, .slice bA0 x0.stems.length dA0] 25) = w0 at HB0 hz0 hcA0_0_0 hcA0_1_0 ⊢
  have HA0_0 := Lib.hid (HA0.out.below HB0)
  have HB0 := Lib.hid HB0
  refine (szGrammar_any _ x0 _ 1048576 _ (show GraR _ _ x0 from HA0_0.out) (by omega) (by omega)).mono ?_
  rintro e w1 ⟨⟨hle, rfl⟩ | ⟨hlt, rfl⟩, hb⟩
  rotate_left
  · go_wp2
    go_ret
    exact ⟨rfl, HB0.out.trans (hb.mono HB0.out.size)⟩
  have hn0 := szNGrammar hle (by omega)
  have hle2 := hle
  have hlf0 : 1048576 - szGraR x0 ≤ 1048576 := by omega
  generalize 1048576 - szGraR x0 = left0 at hlf0 ⊢
  clear hle hle2
  have hz1 : w0.heap.size ≤ w1.heap.size := hb.size
  have HB1 := Lib.hid (HB0.out.trans (hb.mono HB0.out.size))
  have hcA0_0_1 := cell_below hb hcA0_0_0
  have hcA0_1_1 := cell_below hb hcA0_1_0
  have HA0_1 := Lib.hid (HA0_0.out.below hb)
  clear hb HB0 hcA0_0_0 hcA0_1_0 HA0_0
  go_wp2_with fail
  refine (toGrammar_any _ x0 _ (show GraR _ _ x0 from HA0_1.out) hn0).mono ?_
  rintro e w2 ⟨_, rfl, Tw0, hb⟩
  have hz2 : w1.heap.size ≤ w2.heap.size := hb.size
  have HB2 := Lib.hid (HB1.out.trans (hb.mono HB1.out.size))
  have hcA0_0_2 := cell_below hb hcA0_0_1
  have hcA0_1_2 := cell_below hb hcA0_1_1
  have HA0_2 := Lib.hid (HA0_1.out.below hb)
  clear hb HB1 hcA0_0_1 hcA0_1_1 HA0_1
  have Tw_2 := Lib.hid Tw0
  obtain ⟨aTw, cTw, bTw, dTw, rfl⟩ := Tw_2.out.shape
  go_wp2_with fail
  refine (specDerivationsOf_any _ x0 x1 _ Tw_2.out.read h1 (HML.out.below HB2.out)).mono ?_
  rintro e w3 ⟨_, rfl, gw00, hb⟩
  clear Tw_2
  have hz3 : w2.heap.size ≤ w3.heap.size := hb.size
  have HB3 := Lib.hid (HB2.out.trans (hb.mono HB2.out.size))
  have hcA0_0_3 := cell_below hb hcA0_0_2
  have hcA0_1_3 := cell_below hb hcA0_1_2
  have HA0_3 := Lib.hid (HA0_2.out.below hb)
  clear hb HB2 hcA0_0_2 hcA0_1_2 HA0_2
  have Gw0_3 := Lib.hid gw00
  clear gw00
  go_wp2_with fail
  refine (toGrammarX_any _ x0 _ (show GraR _ _ x0 from HA0_3.out) hn0).mono ?_
  rintro e w4 ⟨_, rfl, X00, hb⟩
  have hz4 : w3.heap.size ≤ w4.heap.size := hb.size
  have HB4 := Lib.hid (HB3.out.trans (hb.mono HB3.out.size))
  have hcA0_0_4 := cell_below hb hcA0_0_3
  have hcA0_1_4 := cell_below hb hcA0_1_3
  have HA0_4 := Lib.hid (HA0_3.out.below hb)
  have Gw0_4 := Lib.hid (Gw0_3.out.below hb)
  clear hb HB3 hcA0_0_3 hcA0_1_3 HA0_3 Gw0_3
  have X0_4 := Lib.hid X00
  clear X00
  obtain ⟨aX0, cX0, bX0, dX0, rfl⟩ := X0_4.out.shape
  have hp_hcA0_0 := cell_alloc (.cells #[.slice aX0 x0.affixes.length cX0, .slice bX0 x0.stems.length dX0] 31) hcA0_0_4
  have hp_hcA0_1 := cell_alloc (.cells #[.slice aX0 x0.affixes.length cX0, .slice bX0 x0.stems.length dX0] 31) hcA0_1_4
  go_wp2_with fail
  clear hp_hcA0_0 hp_hcA0_1
  have hb := (Below.refl w4.heap.size w4).alloc (Nat.le_refl _) (.cells #[.slice aX0 x0.affixes.length cX0, .slice bX0 x0.stems.length dX0] 31)
  have hzb : (w4.alloc (.cells #[.slice aX0 x0.affixes.length cX0, .slice bX0 x0.stems.length dX0] 31)).heap.size = w4.heap.size + 1 := by simp
  have hxX0_0_5 := cell_newi w4 #[.slice aX0 x0.affixes.length cX0, .slice bX0 x0.stems.length dX0] 31 0 (.slice aX0 x0.affixes.length cX0) rfl
  have hxX0_1_5 := cell_newi w4 #[.slice aX0 x0.affixes.length cX0, .slice bX0 x0.stems.length dX0] 31 1 (.slice bX0 x0.stems.length dX0) rfl
  generalize w4.alloc (.cells #[.slice aX0 x0.affixes.length cX0, .slice bX0 x0.stems.length dX0] 31) = w5 at hb hzb hxX0_0_5 hxX0_1_5 ⊢
  have hz5 : w4.heap.size ≤ w5.heap.size := hb.size
  have HB5 := Lib.hid (HB4.out.trans (hb.mono HB4.out.size))
  have hcA0_0_5 := cell_below hb hcA0_0_4
  have hcA0_1_5 := cell_below hb hcA0_1_4
  have HA0_5 := Lib.hid (HA0_4.out.below hb)
  have Gw0_5 := Lib.hid (Gw0_4.out.below hb)
  have X0_5 := Lib.hid (X0_4.out.below hb)
  clear hb HB4 hcA0_0_4 hcA0_1_4 HA0_4 Gw0_4 X0_4
  refine (implDerivationsOf_any _ x0 x1 _ X0_5.out.read h1 (HML.out.below HB5.out)).mono ?_
  rintro e w6 ⟨_, rfl, gg00, hb⟩
  have hz6 : w5.heap.size ≤ w6.heap.size := hb.size
  have HB6 := Lib.hid (HB5.out.trans (hb.mono HB5.out.size))
  have hcA0_0_6 := cell_below hb hcA0_0_5
  have hcA0_1_6 := cell_below hb hcA0_1_5
  have hxX0_0_6 := cell_below hb hxX0_0_5
  have hxX0_1_6 := cell_below hb hxX0_1_5
  have HA0_6 := Lib.hid (HA0_5.out.below hb)
  have Gw0_6 := Lib.hid (Gw0_5.out.below hb)
  have X0_6 := Lib.hid (X0_5.out.below hb)
  clear hb HB5 hcA0_0_5 hcA0_1_5 hxX0_0_5 hxX0_1_5 HA0_5 Gw0_5 X0_5
  have Gg0_6 := Lib.hid gg00
  clear gg00
  go_wp2_with fail
  refine (eqDerivationS_any _ _ _ _ _ Gg0_6.out.read Gw0_6.out.read).mono ?_
  rintro e w7 ⟨rfl, hb⟩
  have hz7 : w6.heap.size ≤ w7.heap.size := hb.size
  have HB7 := Lib.hid (HB6.out.trans (hb.mono HB6.out.size))
  have hcA0_0_7 := cell_below hb hcA0_0_6
  have hcA0_1_7 := cell_below hb hcA0_1_6
  have hxX0_0_7 := cell_below hb hxX0_0_6
  have hxX0_1_7 := cell_below hb hxX0_1_6
  have HA0_7 := Lib.hid (HA0_6.out.below hb)
  have Gw0_7 := Lib.hid (Gw0_6.out.below hb)
  have X0_7 := Lib.hid (X0_6.out.below hb)
  have Gg0_7 := Lib.hid (Gg0_6.out.below hb)
  clear hb HB6 hcA0_0_6 hcA0_1_6 hxX0_0_6 hxX0_1_6 HA0_6 Gw0_6 X0_6 Gg0_6
  go_wp2_with fail
  go_region_held3 (fun w' => w'.cell? ⟨w4.heap.size, 0, none⟩ = some (.slice aX0 x0.affixes.length cX0) ∧ w'.cell? ⟨w4.heap.size, 1, none⟩ = some (.slice bX0 x0.stems.length dX0) ∧ w'.cell? ⟨w.heap.size, 0, none⟩ = some (.slice aA0 x0.affixes.length cA0) ∧ w'.cell? ⟨w.heap.size, 1, none⟩ = some (.slice bA0 x0.stems.length dA0) ∧ Below w7.heap.size w7 w')
    (first | exact ⟨hxX0_0_7, hxX0_1_7, hcA0_0_7, hcA0_1_7, (Below.refl _ _).drew⟩ | exact keepC hbk (by assumption) fun h => keepC hbk h fun h => keepC hbk h fun h => keepC hbk h fun h => keepE hbk h)
    (first
      | (go_at_call 10; refine (toGrammar_any _ x0 _ (show GraR _ _ x0 from ((fun (h : _ ∧ _ ∧ _ ∧ _ ∧ Below w7.heap.size w7 _) => HA0_7.out.below h.2.2.2.2) (by assumption))) hn0).mono ?_; rintro e wt ⟨_, rfl, ht, hbk⟩; obtain ⟨aT, cT, bT, dT, rfl⟩ := ht.shape)
      | (go_at_call 12; refine (eqGrammar_any _ _ x0 x0 _ (((fun (h : _ ∧ _ ∧ _ ∧ _ ∧ Below w7.heap.size w7 _) => X0_7.out.below h.2.2.2.2) (by assumption))).read ht.read).mono ?_; rintro e w8 ⟨rfl, hbk⟩))
  have hb := (by assumption : _ ∧ _ ∧ _ ∧ _ ∧ Below w7.heap.size w7 w8).2.2.2.2
  clear ht
  have hz8 : w7.heap.size ≤ w8.heap.size := hb.size
  have HB8 := Lib.hid (HB7.out.trans (hb.mono HB7.out.size))
  have hcA0_0_8 := cell_below hb hcA0_0_7
  have hcA0_1_8 := cell_below hb hcA0_1_7
  have hxX0_0_8 := cell_below hb hxX0_0_7
  have hxX0_1_8 := cell_below hb hxX0_1_7
  have HA0_8 := Lib.hid (HA0_7.out.below hb)
  have Gw0_8 := Lib.hid (Gw0_7.out.below hb)
  have X0_8 := Lib.hid (X0_7.out.below hb)
  have Gg0_8 := Lib.hid (Gg0_7.out.below hb)
  clear hb HB7 hcA0_0_7 hcA0_1_7 hxX0_0_7 hxX0_1_7 HA0_7 Gw0_7 X0_7 Gg0_7
  go_wp2_with fail
  refine (markGrammar_any _ _ _ w3.heap.size w4.heap.size _ X0_8.out (by omega) (by have := cntG_le hn0; omega) (by omega)).mono ?_
  rintro e w9 ⟨rfl, hm, hk⟩
  have hz9 : w8.heap.size ≤ w9.heap.size := hk.size
  have HB9 := Lib.hid (HB8.out.trans (hk.below (by omega) HB8.out.size))
  have hcA0_0_9 := cell_kept hk hcA0_0_8 (by show w.heap.size < _ ∨ _ ≤ w.heap.size; omega)
  have hcA0_1_9 := cell_kept hk hcA0_1_8 (by show w.heap.size < _ ∨ _ ≤ w.heap.size; omega)
  have hxX0_0_9 := cell_kept hk hxX0_0_8 (by show w4.heap.size < _ ∨ _ ≤ w4.heap.size; omega)
  have hxX0_1_9 := cell_kept hk hxX0_1_8 (by show w4.heap.size < _ ∨ _ ≤ w4.heap.size; omega)
  have HA0_9 := Lib.hid (HA0.out.below HB9.out)
  have Gw0_9 := Lib.hid (Gw0_8.out.kept hk (by omega))
  have Gg0_9 := Lib.hid (Gg0_8.out.kept hk (by omega))
  clear hk HB8 hcA0_0_8 hcA0_1_8 hxX0_0_8 hxX0_1_8 HA0_8 Gw0_8 X0_8 Gg0_8
  clear hm
  have hq : ¬ ((1 : Int) + (cntG x0 : Int) < 0) := by omega
  go_wp2_with fail
  refine (eqDerivationS_any _ _ _ _ _ Gg0_9.out.read Gw0_9.out.read).mono ?_
  rintro e w10 ⟨rfl, hb⟩
  have hz10 : w9.heap.size ≤ w10.heap.size := hb.size
  have HB10 := Lib.hid (HB9.out.trans (hb.mono HB9.out.size))
  have hcA0_0_10 := cell_below hb hcA0_0_9
  have hcA0_1_10 := cell_below hb hcA0_1_9
  have hxX0_0_10 := cell_below hb hxX0_0_9
  have hxX0_1_10 := cell_below hb hxX0_1_9
  have HA0_10 := Lib.hid (HA0_9.out.below hb)
  have Gw0_10 := Lib.hid (Gw0_9.out.below hb)
  have Gg0_10 := Lib.hid (Gg0_9.out.below hb)
  clear hb HB9 hcA0_0_9 hcA0_1_9 hxX0_0_9 hxX0_1_9 HA0_9 Gw0_9 Gg0_9
  go_wp2_with fail
  have hlen := dofV_useN x0 x1
  refine (markDersX_any _ _ _ w5.heap.size w6.heap.size _ Gg0_10.out (by omega) (by omega)).mono ?_
  rintro e w11 ⟨rfl, hm, hk⟩
  have hz11 : w10.heap.size ≤ w11.heap.size := hk.size
  have HB11 := Lib.hid (HB10.out.trans (hk.below (by omega) HB10.out.size))
  have hcA0_0_11 := cell_kept hk hcA0_0_10 (by show w.heap.size < _ ∨ _ ≤ w.heap.size; omega)
  have hcA0_1_11 := cell_kept hk hcA0_1_10 (by show w.heap.size < _ ∨ _ ≤ w.heap.size; omega)
  have hxX0_0_11 := cell_kept hk hxX0_0_10 (by show w4.heap.size < _ ∨ _ ≤ w4.heap.size; omega)
  have hxX0_1_11 := cell_kept hk hxX0_1_10 (by show w4.heap.size < _ ∨ _ ≤ w4.heap.size; omega)
  have HA0_11 := Lib.hid (HA0.out.below HB11.out)
  have Gw0_11 := Lib.hid (Gw0_10.out.kept hk (by omega))
  clear hk HB10 hcA0_0_10 hcA0_1_10 hxX0_0_10 hxX0_1_10 HA0_10 Gw0_10 Gg0_10
  have Gg0_11 := Lib.hid hm
  clear hm
  have hq1 : ¬ ((1 : Int) + (useN (dofV x0 x1) : Int) < 0) := by omega
  have hq2 : (((1 : Int) + (useN (dofV x0 x1) : Int)) != (1 + (useN (dofV x0 x1) : Int))) = false := by simp
  go_wp2_with fail
  refine (heldDerivationS_any _ (dofV x0 x1) _ _ Gg0_11.out.read (by omega) (by omega)).mono ?_
  rintro e w12 ⟨rfl, hb⟩
  have hz12 : w11.heap.size ≤ w12.heap.size := hb.size
  have HB12 := Lib.hid (HB11.out.trans (hb.mono HB11.out.size))
  have hcA0_0_12 := cell_below hb hcA0_0_11
  have hcA0_1_12 := cell_below hb hcA0_1_11
  have hxX0_0_12 := cell_below hb hxX0_0_11
  have hxX0_1_12 := cell_below hb hxX0_1_11
  have HA0_12 := Lib.hid (HA0_11.out.below hb)
  have Gw0_12 := Lib.hid (Gw0_11.out.below hb)
  have Gg0_12 := Lib.hid (Gg0_11.out.below hb)
  clear hb HB11 hcA0_0_11 hcA0_1_11 hxX0_0_11 hxX0_1_11 HA0_11 Gw0_11 Gg0_11
  go_wp2_with fail
  refine (toGrammar_any _ x0 _ (show GraR _ _ x0 from HA0_12.out) hn0).mono ?_
  rintro e w13 ⟨_, rfl, Th0, hb⟩
  have hz13 : w12.heap.size ≤ w13.heap.size := hb.size
  have HB13 := Lib.hid (HB12.out.trans (hb.mono HB12.out.size))
  have hcA0_0_13 := cell_below hb hcA0_0_12
  have hcA0_1_13 := cell_below hb hcA0_1_12
  have hxX0_0_13 := cell_below hb hxX0_0_12
  have hxX0_1_13 := cell_below hb hxX0_1_12
  have HA0_13 := Lib.hid (HA0_12.out.below hb)
  have Gw0_13 := Lib.hid (Gw0_12.out.below hb)
  have Gg0_13 := Lib.hid (Gg0_12.out.below hb)
  clear hb HB12 hcA0_0_12 hcA0_1_12 hxX0_0_12 hxX0_1_12 HA0_12 Gw0_12 Gg0_12
  have Th_13 := Lib.hid Th0
  obtain ⟨aTh, cTh, bTh, dTh, rfl⟩ := Th_13.out.shape
  go_wp2_with fail
  refine (implDerivationsOf_any _ x0 x1 _ Th_13.out.read h1 (HML.out.below HB13.out)).mono ?_
  rintro e w14 ⟨_, rfl, gh00, hb⟩
  clear Th_13
  have hz14 : w13.heap.size ≤ w14.heap.size := hb.size
  have HB14 := Lib.hid (HB13.out.trans (hb.mono HB13.out.size))
  have hcA0_0_14 := cell_below hb hcA0_0_13
  have hcA0_1_14 := cell_below hb hcA0_1_13
  have hxX0_0_14 := cell_below hb hxX0_0_13
  have hxX0_1_14 := cell_below hb hxX0_1_13
  have HA0_14 := Lib.hid (HA0_13.out.below hb)
  have Gw0_14 := Lib.hid (Gw0_13.out.below hb)
  have Gg0_14 := Lib.hid (Gg0_13.out.below hb)
  clear hb HB13 hcA0_0_13 hcA0_1_13 hxX0_0_13 hxX0_1_13 HA0_13 Gw0_13 Gg0_13
  have Gh0_14 := Lib.hid gh00
  clear gh00
  go_wp2_with fail
  refine (eqDerivationS_any _ _ _ _ _ Gh0_14.out.read Gw0_14.out.read).mono ?_
  rintro e w15 ⟨rfl, hb⟩
  have hz15 : w14.heap.size ≤ w15.heap.size := hb.size
  have HB15 := Lib.hid (HB14.out.trans (hb.mono HB14.out.size))
  have hcA0_0_15 := cell_below hb hcA0_0_14
  have hcA0_1_15 := cell_below hb hcA0_1_14
  have hxX0_0_15 := cell_below hb hxX0_0_14
  have hxX0_1_15 := cell_below hb hxX0_1_14
  have HA0_15 := Lib.hid (HA0_14.out.below hb)
  have Gw0_15 := Lib.hid (Gw0_14.out.below hb)
  have Gg0_15 := Lib.hid (Gg0_14.out.below hb)
  have Gh0_15 := Lib.hid (Gh0_14.out.below hb)
  clear hb HB14 hcA0_0_14 hcA0_1_14 hxX0_0_14 hxX0_1_14 HA0_14 Gw0_14 Gg0_14 Gh0_14
  go_wp2_with fail
  refine (heldDerivationS_any _ (dofV x0 x1) _ _ Gg0_15.out.read (by omega) (by omega)).mono ?_
  rintro e w16 ⟨rfl, hb⟩
  have hz16 : w15.heap.size ≤ w16.heap.size := hb.size
  have HB16 := Lib.hid (HB15.out.trans (hb.mono HB15.out.size))
  have hcA0_0_16 := cell_below hb hcA0_0_15
  have hcA0_1_16 := cell_below hb hcA0_1_15
  have hxX0_0_16 := cell_below hb hxX0_0_15
  have hxX0_1_16 := cell_below hb hxX0_1_15
  have HA0_16 := Lib.hid (HA0_15.out.below hb)
  have Gw0_16 := Lib.hid (Gw0_15.out.below hb)
  have Gg0_16 := Lib.hid (Gg0_15.out.below hb)
  have Gh0_16 := Lib.hid (Gh0_15.out.below hb)
  clear hb HB15 hcA0_0_15 hcA0_1_15 hxX0_0_15 hxX0_1_15 HA0_15 Gw0_15 Gg0_15 Gh0_15
  go_wp2
  go_ret
  exact ⟨rfl, HB16.out⟩

namespace fnExactDerivationsOf
open Go.ChangeShapes Go.WideShapes Go.ChangeAt Go.RowKit
open Go.ChangeMaps (open_string shut_string)
set_option maxRecDepth 100000 in
theorem lifted (os : Os) (started : os.Started) (H : Type) (enc : TypeId × Value → H) :
      ReturnsInHanded {} Tryd.checked os 5 .any (fun w args => (Rows.fnExactDerivationsOfSpec.pre enc Tryd.prog Tryd.f5 Rows.fnExactDerivationsOfRow.domain false w args ∧ laidMetH Tryd.prog Rows.fnExactDerivationsOfRow.laid w) ∧ sizedMet enc Tryd.prog Tryd.f5 (OpenSpec.ofChange Rows.fnExactDerivationsOfSpec) false w args) (Rows.fnExactDerivationsOfSpec.post enc Tryd.prog Tryd.f5 false true false false) := by
  refine handed_and_shaped (C := Tryd.checked) (X := fun w _ => laidMetH Tryd.prog Rows.fnExactDerivationsOfRow.laid w) (fun _ _ _ hh h => h.of_heap hh) Tryd.own started (by kernel_rfl) Tryd.func5
    (ChangeSpec.witness_shaped (enc := enc) (C := Tryd.checked) (os := os) (X := fun w _ => laidMetH Tryd.prog Rows.fnExactDerivationsOfRow.laid w) false (World.laidAll Tryd.prog os Rows.fnExactDerivationsOfRow.laid) #[.agg #[.slice none 0 0, .slice none 0 0], .string ByteArray.empty] 8 (World.laidAll_os _ _ _)
      (World.shaped_of_ZipB (by kernel_rfl) (by kernel_rfl)) (by kernel_rfl) (by kernel_rfl) (by kernel_rfl)
      (by rw [MakeChecks.laidMetH_plain _ _ _ (by kernel_rfl)]; exact laidMet_laidAll _ (by kernel_rfl) (by kernel_rfl))) ?_
  intro W base args ds gs before hval0 hW hsh _
  have hval : ∀ (j : Nat) t v, Tryd.f5.params[j]? = some t → args[j]? = some v → Value.okWide Tryd.prog W .any base t v := hval0
  have hW' := hW
  obtain ⟨p, q, hA0, hV, rfl, hfz, hnd⟩ := hW
  have hA : DataW.TrodAll enc Tryd.prog W 0 (fun _ => true) true Tryd.f5.params.toList args.toList ds p := hA0
  rw [Tryd.params5] at hA hval
  obtain ⟨v0, vs0, d0, ds0, p0, q0, hargs, rfl, rfl, h0, r0⟩ := trodAll_cons hA
  obtain ⟨v1, vs1, d1, ds1, p1, q1, rfl, rfl, rfl, h1, r1⟩ := trodAll_cons r0
  obtain ⟨rfl, rfl, rfl⟩ := trodAll_nil r1
  obtain rfl : args = #[v0, v1] := by cases args; simp_all
  obtain ⟨rfl, rfl⟩ := trodVars_none hV
  obtain ⟨a0, w0⟩ := open_Grammar (hval 0 25 v0 rfl rfl) h0
  obtain ⟨a1, rfl, rfl, rfl, w1⟩ := open_string Tryd.underlying9 (hval 1 9 v1 rfl rfl) h1
  refine (fnExactDerivationsOf_walk v0 a0 w0 a1 w1 (w := W) (hML := MaxL.shaped hsh)).mono fun e W' ⟨he, hg⟩ => ?_
  subst he
  exact ⟨_, rfl, law_post Tryd.laidOut (by kernel_rfl) (by kernel_rfl) Tryd.underlying4 rfl rfl hW' hg⟩

theorem over : Rows.fnExactDerivationsOfRow.holds Tryd.pinned (OpenSpec.ofChange Rows.fnExactDerivationsOfSpec) :=
  OpenClaim.holds_of_wide 5 Tryd.f5 rfl rfl rfl rfl rfl rfl rfl ⟨rfl, rfl, rfl, rfl, rfl⟩ rfl rfl rfl rfl rfl (by kernel_rfl) Tryd.func5 (by kernel_rfl)
    (of_decide_eq_true (by kernel_rfl)) (by unfold Func.isWrapper; first | (rw [if_pos (by decide +kernel)]; kernel_rfl) | (rw [if_neg (by decide +kernel)]; exact ⟨rfl, rfl⟩))
    (fun os started H enc _ => lifted os started H enc)

theorem proved : Rows.FnExactDerivationsOfCardSaid :=
  Claim7.holds_tied_plain_at .later [] [.data, .pinned] true (true, "af829414c15e4f64bc174ba6f0658db67e948a055b0501301af12220bb6dee4b") false over (fun _ h => by cases h) (by kernel_rfl) (fun _ h => by cases h) fnExactDerivationsOf_row_tie rfl ⟨rfl, rfl⟩ (by kernel_rfl) rfl
    (fun f fn hf hfn => by
      obtain rfl : f = 5 := Option.some.inj ((show Tryd.prog.funcNamed "loop.example/g00911/laws.FnExactDerivationsOf" = some 5 by kernel_rfl).symm.trans hf) |>.symm
      obtain rfl : fn = Tryd.f5 := (Option.some.inj (Tryd.func5.symm.trans hfn)).symm
      exact ⟨by kernel_rfl, fun j t ht => by
        rw [Tryd.params5] at ht
        have hm : t ∈ [25, 9] := by simpa using Array.mem_of_getElem? ht
        have hall : ([25, 9].all fun u => !Tryd.prog.wantsStandIn u) = true := by kernel_rfl
        exact (show Tryd.prog.wantsStandIn t = false by simpa using List.all_eq_true.1 hall t hm)⟩)
    (by kernel_rfl)
end fnExactDerivationsOf

end Go.Proofs.YtgefgdkejenhnaaDoor
