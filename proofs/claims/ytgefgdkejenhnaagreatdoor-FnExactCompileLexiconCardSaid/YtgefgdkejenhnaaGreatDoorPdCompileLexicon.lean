/- FnExactCompileLexicon returns true for all grammars: the program and the reference answer alike, the argument is as it was, and the result shares no memory; and its tied card. No condition but what the row lists. -/
import Derived.Test.YtgefgdkejenhnaaGreatDoorCards
import Derived.Test.YtgefgdkejenhnaaGreatDoorTie
import Derived.Test.YtgefgdkejenhnaaGreatDoorFd
import Derived.Test.YtgefgdkejenhnaaGreatDoorDvC
import Derived.Test.YtgefgdkejenhnaaGreatDoorMk
import Derived.Test.YtgefgdkejenhnaaGreatDoorMv
namespace Go.Proofs.YtgefgdkejenhnaaGreatDoor
open Go.RowKit
theorem dwV_len (g : GraD) : (dwV g).length ≤ 200 := by
  unfold dwV
  split
  · split
    · assumption
    · simp
  · simp
set_option maxHeartbeats 4000000 in
set_option maxRecDepth 20000 in
theorem fnExactCompileLexicon_walk (w : World) (v0 : Value) (x0 : GraD) (hv0 : GraR w v0 x0) (hML : MaxL w) :
    Calls Tryz.prog 4 #[v0] w fun e w' => e = .returned (.bool true) ∧ Below w.heap.size w w' := by
  have HML := Lib.hid hML
  clear hML
  have HA0 := Lib.hid hv0
  obtain ⟨aA0, cA0, bA0, dA0, rfl⟩ := hv0.shape
  go_enter Tryz.func4, Tryz.ntmps4
  go_wp2_with fail
  have HB0 := (Below.refl w.heap.size w).alloc (by simp) (.cells #[.slice aA0 x0.affixes.length cA0, .slice bA0 x0.stems.length dA0] 25)
  have hcA0_0_0 : (w.alloc (.cells #[.slice aA0 x0.affixes.length cA0, .slice bA0 x0.stems.length dA0] 25)).cell? ⟨w.heap.size, 0, none⟩ = some (.slice aA0 x0.affixes.length cA0) := cell_newi (w) #[.slice aA0 x0.affixes.length cA0, .slice bA0 x0.stems.length dA0] 25 0 (.slice aA0 x0.affixes.length cA0) rfl
  have hcA0_1_0 : (w.alloc (.cells #[.slice aA0 x0.affixes.length cA0, .slice bA0 x0.stems.length dA0] 25)).cell? ⟨w.heap.size, 1, none⟩ = some (.slice bA0 x0.stems.length dA0) := cell_newi (w) #[.slice aA0 x0.affixes.length cA0, .slice bA0 x0.stems.length dA0] 25 1 (.slice bA0 x0.stems.length dA0) rfl
  have hz0 : (w.alloc (.cells #[.slice aA0 x0.affixes.length cA0, .slice bA0 x0.stems.length dA0] 25)).heap.size = w.heap.size + 1 := by simp
  generalize w.alloc (.cells #[.slice aA0 x0.affixes.length cA0, .slice bA0 x0.stems.length dA0] 25) = w0 at HB0 hz0 hcA0_0_0 hcA0_1_0 ⊢
  have HA0_0 := Lib.hid (HA0.out.below HB0)
  have HB0 := Lib.hid HB0
  refine (szGrammar_any _ x0 _ 1048576 _ (show GraR _ _ x0 from HA0_0.out) (by omega) (by omega)).mono ?_
  rintro e w1 ⟨⟨hle, rfl⟩ | ⟨hlt, rfl⟩, hb⟩
  rotate_left
  · go_wp2
    go_ret
    exact ⟨rfl, HB0.out.trans (hb.mono HB0.out.size)⟩
  have hn0 := szNGrammar hle (by omega)
  have hle2 := hle
  have hlf0 : 1048576 - szGraR x0 ≤ 1048576 := by omega
  generalize 1048576 - szGraR x0 = left0 at hlf0 ⊢
  clear hle hle2
  have hz1 : w0.heap.size ≤ w1.heap.size := hb.size
  have HB1 := Lib.hid (HB0.out.trans (hb.mono HB0.out.size))
  have hcA0_0_1 := cell_below hb hcA0_0_0
  have hcA0_1_1 := cell_below hb hcA0_1_0
  have HA0_1 := Lib.hid (HA0_0.out.below hb)
  clear hb HB0 hcA0_0_0 hcA0_1_0 HA0_0
  go_wp2_with fail
  refine (toGrammar_any _ x0 _ (show GraR _ _ x0 from HA0_1.out) hn0).mono ?_
  rintro e w2 ⟨_, rfl, Tw0, hb⟩
  have hz2 : w1.heap.size ≤ w2.heap.size := hb.size
  have HB2 := Lib.hid (HB1.out.trans (hb.mono HB1.out.size))
  have hcA0_0_2 := cell_below hb hcA0_0_1
  have hcA0_1_2 := cell_below hb hcA0_1_1
  have HA0_2 := Lib.hid (HA0_1.out.below hb)
  clear hb HB1 hcA0_0_1 hcA0_1_1 HA0_1
  have Tw_2 := Lib.hid Tw0
  obtain ⟨aTw, cTw, bTw, dTw, rfl⟩ := Tw_2.out.shape
  go_wp2_with fail
  refine (specCompileLexicon_any _ x0 _ Tw_2.out.read (HML.out.below HB2.out)).mono ?_
  rintro e w3 ⟨_, rfl, gw00, hb⟩
  clear Tw_2
  have hz3 : w2.heap.size ≤ w3.heap.size := hb.size
  have HB3 := Lib.hid (HB2.out.trans (hb.mono HB2.out.size))
  have hcA0_0_3 := cell_below hb hcA0_0_2
  have hcA0_1_3 := cell_below hb hcA0_1_2
  have HA0_3 := Lib.hid (HA0_2.out.below hb)
  clear hb HB2 hcA0_0_2 hcA0_1_2 HA0_2
  have Gw0_3 := Lib.hid gw00
  clear gw00
  obtain ⟨aGw0, cGw0, rfl⟩ := Gw0_3.out.shape
  have hp_hcA0_0 := cell_alloc (.cells #[.slice aGw0 (dwV x0).length cGw0] 41) hcA0_0_3
  have hp_hcA0_1 := cell_alloc (.cells #[.slice aGw0 (dwV x0).length cGw0] 41) hcA0_1_3
  go_wp2_with fail
  clear hp_hcA0_0 hp_hcA0_1
  have hb := (Below.refl w3.heap.size w3).alloc (Nat.le_refl _) (.cells #[.slice aGw0 (dwV x0).length cGw0] 41)
  have hzb : (w3.alloc (.cells #[.slice aGw0 (dwV x0).length cGw0] 41)).heap.size = w3.heap.size + 1 := by simp
  have hxGw0_0_4 := cell_newi w3 #[.slice aGw0 (dwV x0).length cGw0] 41 0 (.slice aGw0 (dwV x0).length cGw0) rfl
  generalize w3.alloc (.cells #[.slice aGw0 (dwV x0).length cGw0] 41) = w4 at hb hzb hxGw0_0_4 ⊢
  have hz4 : w3.heap.size ≤ w4.heap.size := hb.size
  have HB4 := Lib.hid (HB3.out.trans (hb.mono HB3.out.size))
  have hcA0_0_4 := cell_below hb hcA0_0_3
  have hcA0_1_4 := cell_below hb hcA0_1_3
  have HA0_4 := Lib.hid (HA0_3.out.below hb)
  have Gw0_4 := Lib.hid (Gw0_3.out.below hb)
  clear hb HB3 hcA0_0_3 hcA0_1_3 HA0_3 Gw0_3
  refine (toGrammarX_any _ x0 _ (show GraR _ _ x0 from HA0_4.out) hn0).mono ?_
  rintro e w5 ⟨_, rfl, X00, hb⟩
  have hz5 : w4.heap.size ≤ w5.heap.size := hb.size
  have HB5 := Lib.hid (HB4.out.trans (hb.mono HB4.out.size))
  have hcA0_0_5 := cell_below hb hcA0_0_4
  have hcA0_1_5 := cell_below hb hcA0_1_4
  have hxGw0_0_5 := cell_below hb hxGw0_0_4
  have HA0_5 := Lib.hid (HA0_4.out.below hb)
  have Gw0_5 := Lib.hid (Gw0_4.out.below hb)
  clear hb HB4 hcA0_0_4 hcA0_1_4 hxGw0_0_4 HA0_4 Gw0_4
  have X0_5 := Lib.hid X00
  clear X00
  obtain ⟨aX0, cX0, bX0, dX0, rfl⟩ := X0_5.out.shape
  have hp_hcA0_0 := cell_alloc (.cells #[.slice aX0 x0.affixes.length cX0, .slice bX0 x0.stems.length dX0] 33) hcA0_0_5
  have hp_hcA0_1 := cell_alloc (.cells #[.slice aX0 x0.affixes.length cX0, .slice bX0 x0.stems.length dX0] 33) hcA0_1_5
  have hp_hxGw0_0 := cell_alloc (.cells #[.slice aX0 x0.affixes.length cX0, .slice bX0 x0.stems.length dX0] 33) hxGw0_0_5
  go_wp2_with fail
  clear hp_hcA0_0 hp_hcA0_1 hp_hxGw0_0
  have hb := (Below.refl w5.heap.size w5).alloc (Nat.le_refl _) (.cells #[.slice aX0 x0.affixes.length cX0, .slice bX0 x0.stems.length dX0] 33)
  have hzb : (w5.alloc (.cells #[.slice aX0 x0.affixes.length cX0, .slice bX0 x0.stems.length dX0] 33)).heap.size = w5.heap.size + 1 := by simp
  have hxX0_0_6 := cell_newi w5 #[.slice aX0 x0.affixes.length cX0, .slice bX0 x0.stems.length dX0] 33 0 (.slice aX0 x0.affixes.length cX0) rfl
  have hxX0_1_6 := cell_newi w5 #[.slice aX0 x0.affixes.length cX0, .slice bX0 x0.stems.length dX0] 33 1 (.slice bX0 x0.stems.length dX0) rfl
  generalize w5.alloc (.cells #[.slice aX0 x0.affixes.length cX0, .slice bX0 x0.stems.length dX0] 33) = w6 at hb hzb hxX0_0_6 hxX0_1_6 ⊢
  have hz6 : w5.heap.size ≤ w6.heap.size := hb.size
  have HB6 := Lib.hid (HB5.out.trans (hb.mono HB5.out.size))
  have hcA0_0_6 := cell_below hb hcA0_0_5
  have hcA0_1_6 := cell_below hb hcA0_1_5
  have hxGw0_0_6 := cell_below hb hxGw0_0_5
  have HA0_6 := Lib.hid (HA0_5.out.below hb)
  have Gw0_6 := Lib.hid (Gw0_5.out.below hb)
  have X0_6 := Lib.hid (X0_5.out.below hb)
  clear hb HB5 hcA0_0_5 hcA0_1_5 hxGw0_0_5 HA0_5 Gw0_5 X0_5
  refine (implCompileLexicon_any _ x0 _ X0_6.out.read (HML.out.below HB6.out)).mono ?_
  rintro e w7 ⟨_, rfl, gg00, hb⟩
  have hz7 : w6.heap.size ≤ w7.heap.size := hb.size
  have HB7 := Lib.hid (HB6.out.trans (hb.mono HB6.out.size))
  have hcA0_0_7 := cell_below hb hcA0_0_6
  have hcA0_1_7 := cell_below hb hcA0_1_6
  have hxGw0_0_7 := cell_below hb hxGw0_0_6
  have hxX0_0_7 := cell_below hb hxX0_0_6
  have hxX0_1_7 := cell_below hb hxX0_1_6
  have HA0_7 := Lib.hid (HA0_6.out.below hb)
  have Gw0_7 := Lib.hid (Gw0_6.out.below hb)
  have X0_7 := Lib.hid (X0_6.out.below hb)
  clear hb HB6 hcA0_0_6 hcA0_1_6 hxGw0_0_6 hxX0_0_6 hxX0_1_6 HA0_6 Gw0_6 X0_6
  have Gg0_7 := Lib.hid gg00
  clear gg00
  obtain ⟨aGg0, cGg0, rfl⟩ := Gg0_7.out.shape
  have hp_hcA0_0 := cell_alloc (.cells #[.slice aGg0 (dwV x0).length cGg0] 41) hcA0_0_7
  have hp_hcA0_1 := cell_alloc (.cells #[.slice aGg0 (dwV x0).length cGg0] 41) hcA0_1_7
  have hp_hxGw0_0 := cell_alloc (.cells #[.slice aGg0 (dwV x0).length cGg0] 41) hxGw0_0_7
  have hp_hxX0_0 := cell_alloc (.cells #[.slice aGg0 (dwV x0).length cGg0] 41) hxX0_0_7
  have hp_hxX0_1 := cell_alloc (.cells #[.slice aGg0 (dwV x0).length cGg0] 41) hxX0_1_7
  go_wp2_with fail
  clear hp_hcA0_0 hp_hcA0_1 hp_hxGw0_0 hp_hxX0_0 hp_hxX0_1
  have hb := (Below.refl w7.heap.size w7).alloc (Nat.le_refl _) (.cells #[.slice aGg0 (dwV x0).length cGg0] 41)
  have hzb : (w7.alloc (.cells #[.slice aGg0 (dwV x0).length cGg0] 41)).heap.size = w7.heap.size + 1 := by simp
  have hxGg0_0_8 := cell_newi w7 #[.slice aGg0 (dwV x0).length cGg0] 41 0 (.slice aGg0 (dwV x0).length cGg0) rfl
  generalize w7.alloc (.cells #[.slice aGg0 (dwV x0).length cGg0] 41) = w8 at hb hzb hxGg0_0_8 ⊢
  have hz8 : w7.heap.size ≤ w8.heap.size := hb.size
  have HB8 := Lib.hid (HB7.out.trans (hb.mono HB7.out.size))
  have hcA0_0_8 := cell_below hb hcA0_0_7
  have hcA0_1_8 := cell_below hb hcA0_1_7
  have hxGw0_0_8 := cell_below hb hxGw0_0_7
  have hxX0_0_8 := cell_below hb hxX0_0_7
  have hxX0_1_8 := cell_below hb hxX0_1_7
  have HA0_8 := Lib.hid (HA0_7.out.below hb)
  have Gw0_8 := Lib.hid (Gw0_7.out.below hb)
  have X0_8 := Lib.hid (X0_7.out.below hb)
  have Gg0_8 := Lib.hid (Gg0_7.out.below hb)
  clear hb HB7 hcA0_0_7 hcA0_1_7 hxGw0_0_7 hxX0_0_7 hxX0_1_7 HA0_7 Gw0_7 X0_7 Gg0_7
  refine (eqLexicon_any _ _ _ _ _ Gg0_8.out.read Gw0_8.out.read).mono ?_
  rintro e w9 ⟨rfl, hb⟩
  have hz9 : w8.heap.size ≤ w9.heap.size := hb.size
  have HB9 := Lib.hid (HB8.out.trans (hb.mono HB8.out.size))
  have hcA0_0_9 := cell_below hb hcA0_0_8
  have hcA0_1_9 := cell_below hb hcA0_1_8
  have hxGw0_0_9 := cell_below hb hxGw0_0_8
  have hxX0_0_9 := cell_below hb hxX0_0_8
  have hxX0_1_9 := cell_below hb hxX0_1_8
  have hxGg0_0_9 := cell_below hb hxGg0_0_8
  have HA0_9 := Lib.hid (HA0_8.out.below hb)
  have Gw0_9 := Lib.hid (Gw0_8.out.below hb)
  have X0_9 := Lib.hid (X0_8.out.below hb)
  have Gg0_9 := Lib.hid (Gg0_8.out.below hb)
  clear hb HB8 hcA0_0_8 hcA0_1_8 hxGw0_0_8 hxX0_0_8 hxX0_1_8 hxGg0_0_8 HA0_8 Gw0_8 X0_8 Gg0_8
  go_wp2_with fail
  go_region_held3 (fun w' => w'.cell? ⟨w5.heap.size, 0, none⟩ = some (.slice aX0 x0.affixes.length cX0) ∧ w'.cell? ⟨w5.heap.size, 1, none⟩ = some (.slice bX0 x0.stems.length dX0) ∧ w'.cell? ⟨w.heap.size, 0, none⟩ = some (.slice aA0 x0.affixes.length cA0) ∧ w'.cell? ⟨w.heap.size, 1, none⟩ = some (.slice bA0 x0.stems.length dA0) ∧ Below w9.heap.size w9 w')
    (first | exact ⟨hxX0_0_9, hxX0_1_9, hcA0_0_9, hcA0_1_9, (Below.refl _ _).drew⟩ | exact keepC hbk (by assumption) fun h => keepC hbk h fun h => keepC hbk h fun h => keepC hbk h fun h => keepE hbk h)
    (first
      | (go_at_call 8; refine (toGrammar_any _ x0 _ (show GraR _ _ x0 from ((fun (h : _ ∧ _ ∧ _ ∧ _ ∧ Below w9.heap.size w9 _) => HA0_9.out.below h.2.2.2.2) (by assumption))) hn0).mono ?_; rintro e wt ⟨_, rfl, ht, hbk⟩; obtain ⟨aT, cT, bT, dT, rfl⟩ := ht.shape)
      | (go_at_call 11; refine (eqGrammar_any _ _ x0 x0 _ (((fun (h : _ ∧ _ ∧ _ ∧ _ ∧ Below w9.heap.size w9 _) => X0_9.out.below h.2.2.2.2) (by assumption))).read ht.read).mono ?_; rintro e w10 ⟨rfl, hbk⟩))
  have hb := (by assumption : _ ∧ _ ∧ _ ∧ _ ∧ Below w9.heap.size w9 w10).2.2.2.2
  clear ht
  have hz10 : w9.heap.size ≤ w10.heap.size := hb.size
  have HB10 := Lib.hid (HB9.out.trans (hb.mono HB9.out.size))
  have hcA0_0_10 := cell_below hb hcA0_0_9
  have hcA0_1_10 := cell_below hb hcA0_1_9
  have hxGw0_0_10 := cell_below hb hxGw0_0_9
  have hxX0_0_10 := cell_below hb hxX0_0_9
  have hxX0_1_10 := cell_below hb hxX0_1_9
  have hxGg0_0_10 := cell_below hb hxGg0_0_9
  have HA0_10 := Lib.hid (HA0_9.out.below hb)
  have Gw0_10 := Lib.hid (Gw0_9.out.below hb)
  have X0_10 := Lib.hid (X0_9.out.below hb)
  have Gg0_10 := Lib.hid (Gg0_9.out.below hb)
  clear hb HB9 hcA0_0_9 hcA0_1_9 hxGw0_0_9 hxX0_0_9 hxX0_1_9 hxGg0_0_9 HA0_9 Gw0_9 X0_9 Gg0_9
  go_wp2_with fail
  refine (markGrammar_any _ _ _ w4.heap.size w5.heap.size _ X0_10.out (by omega) (by have := cntG_le hn0; omega) (by omega)).mono ?_
  rintro e w11 ⟨rfl, hm, hk⟩
  have hz11 : w10.heap.size ≤ w11.heap.size := hk.size
  have HB11 := Lib.hid (HB10.out.trans (hk.below (by omega) HB10.out.size))
  have hcA0_0_11 := cell_kept hk hcA0_0_10 (by show w.heap.size < _ ∨ _ ≤ w.heap.size; omega)
  have hcA0_1_11 := cell_kept hk hcA0_1_10 (by show w.heap.size < _ ∨ _ ≤ w.heap.size; omega)
  have hxGw0_0_11 := cell_kept hk hxGw0_0_10 (by show w3.heap.size < _ ∨ _ ≤ w3.heap.size; omega)
  have hxX0_0_11 := cell_kept hk hxX0_0_10 (by show w5.heap.size < _ ∨ _ ≤ w5.heap.size; omega)
  have hxX0_1_11 := cell_kept hk hxX0_1_10 (by show w5.heap.size < _ ∨ _ ≤ w5.heap.size; omega)
  have hxGg0_0_11 := cell_kept hk hxGg0_0_10 (by show w7.heap.size < _ ∨ _ ≤ w7.heap.size; omega)
  have HA0_11 := Lib.hid (HA0.out.below HB11.out)
  have Gw0_11 := Lib.hid (Gw0_10.out.kept hk (by omega))
  have Gg0_11 := Lib.hid (Gg0_10.out.kept hk (by omega))
  clear hk HB10 hcA0_0_10 hcA0_1_10 hxGw0_0_10 hxX0_0_10 hxX0_1_10 hxGg0_0_10 HA0_10 Gw0_10 X0_10 Gg0_10
  clear hm
  have hq : ¬ ((1 : Int) + (cntG x0 : Int) < 0) := by omega
  go_wp2_with fail
  refine (eqLexicon_any _ _ _ _ _ Gg0_11.out.read Gw0_11.out.read).mono ?_
  rintro e w12 ⟨rfl, hb⟩
  have hz12 : w11.heap.size ≤ w12.heap.size := hb.size
  have HB12 := Lib.hid (HB11.out.trans (hb.mono HB11.out.size))
  have hcA0_0_12 := cell_below hb hcA0_0_11
  have hcA0_1_12 := cell_below hb hcA0_1_11
  have hxGw0_0_12 := cell_below hb hxGw0_0_11
  have hxX0_0_12 := cell_below hb hxX0_0_11
  have hxX0_1_12 := cell_below hb hxX0_1_11
  have hxGg0_0_12 := cell_below hb hxGg0_0_11
  have HA0_12 := Lib.hid (HA0_11.out.below hb)
  have Gw0_12 := Lib.hid (Gw0_11.out.below hb)
  have Gg0_12 := Lib.hid (Gg0_11.out.below hb)
  clear hb HB11 hcA0_0_11 hcA0_1_11 hxGw0_0_11 hxX0_0_11 hxX0_1_11 hxGg0_0_11 HA0_11 Gw0_11 Gg0_11
  go_wp2_with fail
  have hlen := dwV_len x0
  refine (markLexicon_any _ _ _ w6.heap.size w7.heap.size _ Gg0_12.out (by omega) (by omega)).mono ?_
  rintro e w13 ⟨rfl, hm, hk⟩
  have hz13 : w12.heap.size ≤ w13.heap.size := hk.size
  have HB13 := Lib.hid (HB12.out.trans (hk.below (by omega) HB12.out.size))
  have hcA0_0_13 := cell_kept hk hcA0_0_12 (by show w.heap.size < _ ∨ _ ≤ w.heap.size; omega)
  have hcA0_1_13 := cell_kept hk hcA0_1_12 (by show w.heap.size < _ ∨ _ ≤ w.heap.size; omega)
  have hxGw0_0_13 := cell_kept hk hxGw0_0_12 (by show w3.heap.size < _ ∨ _ ≤ w3.heap.size; omega)
  have hxX0_0_13 := cell_kept hk hxX0_0_12 (by show w5.heap.size < _ ∨ _ ≤ w5.heap.size; omega)
  have hxX0_1_13 := cell_kept hk hxX0_1_12 (by show w5.heap.size < _ ∨ _ ≤ w5.heap.size; omega)
  have hxGg0_0_13 := cell_kept hk hxGg0_0_12 (by show w7.heap.size < _ ∨ _ ≤ w7.heap.size; omega)
  have HA0_13 := Lib.hid (HA0.out.below HB13.out)
  have Gw0_13 := Lib.hid (Gw0_12.out.kept hk (by omega))
  clear hk HB12 hcA0_0_12 hcA0_1_12 hxGw0_0_12 hxX0_0_12 hxX0_1_12 hxGg0_0_12 HA0_12 Gw0_12 Gg0_12
  have Gg0_13 := Lib.hid hm
  clear hm
  have hq1 : ¬ ((1 : Int) + ((dwV x0).length : Int) < 0) := by omega
  have hq2 : (((1 : Int) + ((dwV x0).length : Int)) != (1 + ((dwV x0).length : Int))) = false := by simp
  go_wp2_with fail
  refine (heldLexicon_any _ (dwV x0) _ _ Gg0_13.out.read (by omega) (by omega)).mono ?_
  rintro e w14 ⟨rfl, hb⟩
  have hz14 : w13.heap.size ≤ w14.heap.size := hb.size
  have HB14 := Lib.hid (HB13.out.trans (hb.mono HB13.out.size))
  have hcA0_0_14 := cell_below hb hcA0_0_13
  have hcA0_1_14 := cell_below hb hcA0_1_13
  have hxGw0_0_14 := cell_below hb hxGw0_0_13
  have hxX0_0_14 := cell_below hb hxX0_0_13
  have hxX0_1_14 := cell_below hb hxX0_1_13
  have hxGg0_0_14 := cell_below hb hxGg0_0_13
  have HA0_14 := Lib.hid (HA0_13.out.below hb)
  have Gw0_14 := Lib.hid (Gw0_13.out.below hb)
  have Gg0_14 := Lib.hid (Gg0_13.out.below hb)
  clear hb HB13 hcA0_0_13 hcA0_1_13 hxGw0_0_13 hxX0_0_13 hxX0_1_13 hxGg0_0_13 HA0_13 Gw0_13 Gg0_13
  go_wp2_with fail
  refine (toGrammar_any _ x0 _ (show GraR _ _ x0 from HA0_14.out) hn0).mono ?_
  rintro e w15 ⟨_, rfl, Th0, hb⟩
  have hz15 : w14.heap.size ≤ w15.heap.size := hb.size
  have HB15 := Lib.hid (HB14.out.trans (hb.mono HB14.out.size))
  have hcA0_0_15 := cell_below hb hcA0_0_14
  have hcA0_1_15 := cell_below hb hcA0_1_14
  have hxGw0_0_15 := cell_below hb hxGw0_0_14
  have hxX0_0_15 := cell_below hb hxX0_0_14
  have hxX0_1_15 := cell_below hb hxX0_1_14
  have hxGg0_0_15 := cell_below hb hxGg0_0_14
  have HA0_15 := Lib.hid (HA0_14.out.below hb)
  have Gw0_15 := Lib.hid (Gw0_14.out.below hb)
  have Gg0_15 := Lib.hid (Gg0_14.out.below hb)
  clear hb HB14 hcA0_0_14 hcA0_1_14 hxGw0_0_14 hxX0_0_14 hxX0_1_14 hxGg0_0_14 HA0_14 Gw0_14 Gg0_14
  have Th_15 := Lib.hid Th0
  obtain ⟨aTh, cTh, bTh, dTh, rfl⟩ := Th_15.out.shape
  go_wp2_with fail
  refine (implCompileLexicon_any _ x0 _ Th_15.out.read (HML.out.below HB15.out)).mono ?_
  rintro e w16 ⟨_, rfl, gh00, hb⟩
  clear Th_15
  have hz16 : w15.heap.size ≤ w16.heap.size := hb.size
  have HB16 := Lib.hid (HB15.out.trans (hb.mono HB15.out.size))
  have hcA0_0_16 := cell_below hb hcA0_0_15
  have hcA0_1_16 := cell_below hb hcA0_1_15
  have hxGw0_0_16 := cell_below hb hxGw0_0_15
  have hxX0_0_16 := cell_below hb hxX0_0_15
  have hxX0_1_16 := cell_below hb hxX0_1_15
  have hxGg0_0_16 := cell_below hb hxGg0_0_15
  have HA0_16 := Lib.hid (HA0_15.out.below hb)
  have Gw0_16 := Lib.hid (Gw0_15.out.below hb)
  have Gg0_16 := Lib.hid (Gg0_15.out.below hb)
  clear hb HB15 hcA0_0_15 hcA0_1_15 hxGw0_0_15 hxX0_0_15 hxX0_1_15 hxGg0_0_15 HA0_15 Gw0_15 Gg0_15
  have Gh0_16 := Lib.hid gh00
  clear gh00
  obtain ⟨aGh0, cGh0, rfl⟩ := Gh0_16.out.shape
  have hp_hcA0_0 := cell_alloc (.cells #[.slice aGh0 (dwV x0).length cGh0] 41) hcA0_0_16
  have hp_hcA0_1 := cell_alloc (.cells #[.slice aGh0 (dwV x0).length cGh0] 41) hcA0_1_16
  have hp_hxGw0_0 := cell_alloc (.cells #[.slice aGh0 (dwV x0).length cGh0] 41) hxGw0_0_16
  have hp_hxX0_0 := cell_alloc (.cells #[.slice aGh0 (dwV x0).length cGh0] 41) hxX0_0_16
  have hp_hxX0_1 := cell_alloc (.cells #[.slice aGh0 (dwV x0).length cGh0] 41) hxX0_1_16
  have hp_hxGg0_0 := cell_alloc (.cells #[.slice aGh0 (dwV x0).length cGh0] 41) hxGg0_0_16
  go_wp2_with fail
  clear hp_hcA0_0 hp_hcA0_1 hp_hxGw0_0 hp_hxX0_0 hp_hxX0_1 hp_hxGg0_0
  have hb := (Below.refl w16.heap.size w16).alloc (Nat.le_refl _) (.cells #[.slice aGh0 (dwV x0).length cGh0] 41)
  have hzb : (w16.alloc (.cells #[.slice aGh0 (dwV x0).length cGh0] 41)).heap.size = w16.heap.size + 1 := by simp
  have hxGh0_0_17 := cell_newi w16 #[.slice aGh0 (dwV x0).length cGh0] 41 0 (.slice aGh0 (dwV x0).length cGh0) rfl
  generalize w16.alloc (.cells #[.slice aGh0 (dwV x0).length cGh0] 41) = w17 at hb hzb hxGh0_0_17 ⊢
  have hz17 : w16.heap.size ≤ w17.heap.size := hb.size
  have HB17 := Lib.hid (HB16.out.trans (hb.mono HB16.out.size))
  have hcA0_0_17 := cell_below hb hcA0_0_16
  have hcA0_1_17 := cell_below hb hcA0_1_16
  have hxGw0_0_17 := cell_below hb hxGw0_0_16
  have hxX0_0_17 := cell_below hb hxX0_0_16
  have hxX0_1_17 := cell_below hb hxX0_1_16
  have hxGg0_0_17 := cell_below hb hxGg0_0_16
  have HA0_17 := Lib.hid (HA0_16.out.below hb)
  have Gw0_17 := Lib.hid (Gw0_16.out.below hb)
  have Gg0_17 := Lib.hid (Gg0_16.out.below hb)
  have Gh0_17 := Lib.hid (Gh0_16.out.below hb)
  clear hb HB16 hcA0_0_16 hcA0_1_16 hxGw0_0_16 hxX0_0_16 hxX0_1_16 hxGg0_0_16 HA0_16 Gw0_16 Gg0_16 Gh0_16
  refine (eqLexicon_any _ _ _ _ _ Gh0_17.out.read Gw0_17.out.read).mono ?_
  rintro e w18 ⟨rfl, hb⟩
  have hz18 : w17.heap.size ≤ w18.heap.size := hb.size
  have HB18 := Lib.hid (HB17.out.trans (hb.mono HB17.out.size))
  have hcA0_0_18 := cell_below hb hcA0_0_17
  have hcA0_1_18 := cell_below hb hcA0_1_17
  have hxGw0_0_18 := cell_below hb hxGw0_0_17
  have hxX0_0_18 := cell_below hb hxX0_0_17
  have hxX0_1_18 := cell_below hb hxX0_1_17
  have hxGg0_0_18 := cell_below hb hxGg0_0_17
  have hxGh0_0_18 := cell_below hb hxGh0_0_17
  have HA0_18 := Lib.hid (HA0_17.out.below hb)
  have Gw0_18 := Lib.hid (Gw0_17.out.below hb)
  have Gg0_18 := Lib.hid (Gg0_17.out.below hb)
  have Gh0_18 := Lib.hid (Gh0_17.out.below hb)
  clear hb HB17 hcA0_0_17 hcA0_1_17 hxGw0_0_17 hxX0_0_17 hxX0_1_17 hxGg0_0_17 hxGh0_0_17 HA0_17 Gw0_17 Gg0_17 Gh0_17
  go_wp2_with fail
  refine (heldLexicon_any _ (dwV x0) _ _ Gg0_18.out.read (by omega) (by omega)).mono ?_
  rintro e w19 ⟨rfl, hb⟩
  have hz19 : w18.heap.size ≤ w19.heap.size := hb.size
  have HB19 := Lib.hid (HB18.out.trans (hb.mono HB18.out.size))
  have hcA0_0_19 := cell_below hb hcA0_0_18
  have hcA0_1_19 := cell_below hb hcA0_1_18
  have hxGw0_0_19 := cell_below hb hxGw0_0_18
  have hxX0_0_19 := cell_below hb hxX0_0_18
  have hxX0_1_19 := cell_below hb hxX0_1_18
  have hxGg0_0_19 := cell_below hb hxGg0_0_18
  have hxGh0_0_19 := cell_below hb hxGh0_0_18
  have HA0_19 := Lib.hid (HA0_18.out.below hb)
  have Gw0_19 := Lib.hid (Gw0_18.out.below hb)
  have Gg0_19 := Lib.hid (Gg0_18.out.below hb)
  have Gh0_19 := Lib.hid (Gh0_18.out.below hb)
  clear hb HB18 hcA0_0_18 hcA0_1_18 hxGw0_0_18 hxX0_0_18 hxX0_1_18 hxGg0_0_18 hxGh0_0_18 HA0_18 Gw0_18 Gg0_18 Gh0_18
  go_wp2
  go_ret
  exact ⟨rfl, HB19.out⟩

namespace fnExactCompileLexicon
open Go.ChangeShapes Go.WideShapes Go.ChangeAt Go.RowKit
open Go.ChangeMaps (open_string shut_string)
set_option maxRecDepth 100000 in
theorem lifted (os : Os) (started : os.Started) (H : Type) (enc : TypeId × Value → H) :
      ReturnsInHanded {} Tryz.checked os 4 .any (fun w args => (Rows.fnExactCompileLexiconSpec.pre enc Tryz.prog Tryz.f4 Rows.fnExactCompileLexiconRow.domain false w args ∧ laidMetH Tryz.prog Rows.fnExactCompileLexiconRow.laid w) ∧ sizedMet enc Tryz.prog Tryz.f4 (OpenSpec.ofChange Rows.fnExactCompileLexiconSpec) false w args) (Rows.fnExactCompileLexiconSpec.post enc Tryz.prog Tryz.f4 false true false false) := by
  refine handed_and_shaped (C := Tryz.checked) (X := fun w _ => laidMetH Tryz.prog Rows.fnExactCompileLexiconRow.laid w) (fun _ _ _ hh h => h.of_heap hh) Tryz.own started (by kernel_rfl) Tryz.func4
    (ChangeSpec.witness_shaped (enc := enc) (C := Tryz.checked) (os := os) (X := fun w _ => laidMetH Tryz.prog Rows.fnExactCompileLexiconRow.laid w) false (World.laidAll Tryz.prog os Rows.fnExactCompileLexiconRow.laid) #[.agg #[.slice none 0 0, .slice none 0 0]] 8 (World.laidAll_os _ _ _)
      (World.shaped_of_ZipB (by kernel_rfl) (by kernel_rfl)) (by kernel_rfl) (by kernel_rfl) (by kernel_rfl)
      (by rw [MakeChecks.laidMetH_plain _ _ _ (by kernel_rfl)]; exact laidMet_laidAll _ (by kernel_rfl) (by kernel_rfl))) ?_
  intro W base args ds gs before hval0 hW hsh _
  have hval : ∀ (j : Nat) t v, Tryz.f4.params[j]? = some t → args[j]? = some v → Value.okWide Tryz.prog W .any base t v := hval0
  have hW' := hW
  obtain ⟨p, q, hA0, hV, rfl, hfz, hnd⟩ := hW
  have hA : DataW.TrodAll enc Tryz.prog W 0 (fun _ => true) true Tryz.f4.params.toList args.toList ds p := hA0
  rw [Tryz.params4] at hA hval
  obtain ⟨v0, vs0, d0, ds0, p0, q0, hargs, rfl, rfl, h0, r0⟩ := trodAll_cons hA
  obtain ⟨rfl, rfl, rfl⟩ := trodAll_nil r0
  obtain rfl : args = #[v0] := by cases args; simp_all
  obtain ⟨rfl, rfl⟩ := trodVars_none hV
  obtain ⟨a0, w0⟩ := open_Grammar (hval 0 25 v0 rfl rfl) h0
  refine (fnExactCompileLexicon_walk v0 a0 w0 (w := W) (hML := MaxL.shaped hsh)).mono fun e W' ⟨he, hg⟩ => ?_
  subst he
  exact ⟨_, rfl, law_post Tryz.laidOut (by kernel_rfl) (by kernel_rfl) Tryz.underlying4 rfl rfl hW' hg⟩

theorem over : Rows.fnExactCompileLexiconRow.holds Tryz.pinned (OpenSpec.ofChange Rows.fnExactCompileLexiconSpec) :=
  OpenClaim.holds_of_wide 4 Tryz.f4 rfl rfl rfl rfl rfl rfl rfl ⟨rfl, rfl, rfl, rfl, rfl⟩ rfl rfl rfl rfl rfl (by kernel_rfl) Tryz.func4 (by kernel_rfl)
    (of_decide_eq_true (by kernel_rfl)) (by unfold Func.isWrapper; first | (rw [if_pos (by decide +kernel)]; kernel_rfl) | (rw [if_neg (by decide +kernel)]; exact ⟨rfl, rfl⟩))
    (fun os started H enc _ => lifted os started H enc)

theorem proved : Rows.FnExactCompileLexiconCardSaid :=
  Claim7.holds_tied_plain_at .later [] [.data, .pinned] true (true, "5deb8f3dbdc566c983d9c2cb4c3af1029b8b872bb4ce0cce9315a3122c008cd8") false over (fun _ h => by cases h) (by kernel_rfl) (fun _ h => by cases h) fnExactCompileLexicon_row_tie rfl ⟨rfl, rfl⟩ (by kernel_rfl) rfl
    (fun f fn hf hfn => by
      obtain rfl : f = 4 := Option.some.inj ((show Tryz.prog.funcNamed "loop.example/g00911/laws.FnExactCompileLexicon" = some 4 by kernel_rfl).symm.trans hf) |>.symm
      obtain rfl : fn = Tryz.f4 := (Option.some.inj (Tryz.func4.symm.trans hfn)).symm
      exact ⟨by kernel_rfl, fun j t ht => by
        rw [Tryz.params4] at ht
        have hm : t ∈ [25] := by simpa using Array.mem_of_getElem? ht
        have hall : ([25].all fun u => !Tryz.prog.wantsStandIn u) = true := by kernel_rfl
        exact (show Tryz.prog.wantsStandIn t = false by simpa using List.all_eq_true.1 hall t hm)⟩)
    (by kernel_rfl)
end fnExactCompileLexicon

end Go.Proofs.YtgefgdkejenhnaaGreatDoor
