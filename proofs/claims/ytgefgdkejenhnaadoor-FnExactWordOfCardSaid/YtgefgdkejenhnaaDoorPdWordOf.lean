/- FnExactWordOf returns true for all grammars and derivations: the program and the reference answer alike, and the arguments are as they were; and its tied card. No condition but what the row lists. -/
import Derived.Test.YtgefgdkejenhnaaDoorCards
import Derived.Test.YtgefgdkejenhnaaDoorTie
import Derived.Test.YtgefgdkejenhnaaDoorFd
import Derived.Test.YtgefgdkejenhnaaDoorWoe
namespace Go.Proofs.YtgefgdkejenhnaaDoor
open Go.RowKit
attribute [local irreducible] Calls in
set_option maxHeartbeats 4000000 in
set_option maxRecDepth 20000 in
theorem fnExactWordOf_walk (w : World) (v0 : Value) (x0 : GraD) (hv0 : GraR w v0 x0) (v1 : Value) (x1 : DerD) (hv1 : DerR w v1 x1) (hML : MaxL w) :
    Calls Tryd.prog 4 #[v0, v1] w fun e w' => e = .returned (.bool true) ∧ Below w.heap.size w w' := by
  have HML := Lib.hid hML
  clear hML
  have HA0 := Lib.hid hv0
  obtain ⟨aA0, cA0, bA0, dA0, rfl⟩ := hv0.shape
  have HA1 := Lib.hid hv1
  obtain ⟨aA1, cA1, rfl⟩ := hv1.shape
  go_enter Tryd.func4, Tryd.ntmps4
  go_wp2_with fail
  have HB0 := ((Below.refl w.heap.size w).alloc (by simp) (.cells #[.slice aA0 x0.affixes.length cA0, .slice bA0 x0.stems.length dA0] 25)).alloc (by simp) (.cells #[.string x1.stem, .slice aA1 x1.affixes.length cA1] 37)
  have hcA0_0_0 : ((w.alloc (.cells #[.slice aA0 x0.affixes.length cA0, .slice bA0 x0.stems.length dA0] 25)).alloc (.cells #[.string x1.stem, .slice aA1 x1.affixes.length cA1] 37)).cell? ⟨w.heap.size, 0, none⟩ = some (.slice aA0 x0.affixes.length cA0) := cell_alloc (.cells #[.string x1.stem, .slice aA1 x1.affixes.length cA1] 37) (cell_newi (w) #[.slice aA0 x0.affixes.length cA0, .slice bA0 x0.stems.length dA0] 25 0 (.slice aA0 x0.affixes.length cA0) rfl)
  have hcA0_1_0 : ((w.alloc (.cells #[.slice aA0 x0.affixes.length cA0, .slice bA0 x0.stems.length dA0] 25)).alloc (.cells #[.string x1.stem, .slice aA1 x1.affixes.length cA1] 37)).cell? ⟨w.heap.size, 1, none⟩ = some (.slice bA0 x0.stems.length dA0) := cell_alloc (.cells #[.string x1.stem, .slice aA1 x1.affixes.length cA1] 37) (cell_newi (w) #[.slice aA0 x0.affixes.length cA0, .slice bA0 x0.stems.length dA0] 25 1 (.slice bA0 x0.stems.length dA0) rfl)
  have hcA1_0_0 : ((w.alloc (.cells #[.slice aA0 x0.affixes.length cA0, .slice bA0 x0.stems.length dA0] 25)).alloc (.cells #[.string x1.stem, .slice aA1 x1.affixes.length cA1] 37)).cell? ⟨w.heap.size + 1, 0, none⟩ = some (.string x1.stem) := by simpa only [World.size_alloc] using cell_newi ((w).alloc (.cells #[.slice aA0 x0.affixes.length cA0, .slice bA0 x0.stems.length dA0] 25)) #[.string x1.stem, .slice aA1 x1.affixes.length cA1] 37 0 (.string x1.stem) rfl
  have hcA1_1_0 : ((w.alloc (.cells #[.slice aA0 x0.affixes.length cA0, .slice bA0 x0.stems.length dA0] 25)).alloc (.cells #[.string x1.stem, .slice aA1 x1.affixes.length cA1] 37)).cell? ⟨w.heap.size + 1, 1, none⟩ = some (.slice aA1 x1.affixes.length cA1) := by simpa only [World.size_alloc] using cell_newi ((w).alloc (.cells #[.slice aA0 x0.affixes.length cA0, .slice bA0 x0.stems.length dA0] 25)) #[.string x1.stem, .slice aA1 x1.affixes.length cA1] 37 1 (.slice aA1 x1.affixes.length cA1) rfl
  have hz0 : ((w.alloc (.cells #[.slice aA0 x0.affixes.length cA0, .slice bA0 x0.stems.length dA0] 25)).alloc (.cells #[.string x1.stem, .slice aA1 x1.affixes.length cA1] 37)).heap.size = w.heap.size + 2 := by simp
  generalize (w.alloc (.cells #[.slice aA0 x0.affixes.length cA0, .slice bA0 x0.stems.length dA0] 25)).alloc (.cells #[.string x1.stem, .slice aA1 x1.affixes.length cA1] 37) = w0 at HB0 hz0 hcA0_0_0 hcA0_1_0 hcA1_0_0 hcA1_1_0 ⊢
  have HA0_0 := Lib.hid (HA0.out.below HB0)
  have HA1_0 := Lib.hid (HA1.out.below HB0)
  have HMR_0 := Lib.hid (HML.out.below HB0)
  have HB0 := Lib.hid HB0
  clear HA0 HA1
  refine (szGrammar_any _ x0 _ 1048576 _ (show GraR _ _ x0 from HA0_0.out) (by omega) (by omega)).mono ?_
  rintro e w1 ⟨⟨hle, rfl⟩ | ⟨hlt, rfl⟩, hb⟩
  rotate_left
  · go_wp2
    go_ret
    exact ⟨rfl, HB0.out.trans (hb.mono HB0.out.size)⟩
  have hn0 := szNGrammar hle (by omega)
  have hle2 := hle
  have hlf0 : 1048576 - szGraR x0 ≤ 1048576 := by omega
  generalize 1048576 - szGraR x0 = left0 at hlf0 ⊢
  clear hle hle2
  have hz1 : w0.heap.size ≤ w1.heap.size := hb.size
  have HB1 := Lib.hid (HB0.out.trans (hb.mono HB0.out.size))
  have hcA0_0_1 := cell_below hb hcA0_0_0
  have hcA0_1_1 := cell_below hb hcA0_1_0
  have hcA1_0_1 := cell_below hb hcA1_0_0
  have hcA1_1_1 := cell_below hb hcA1_1_0
  have HA0_1 := Lib.hid (HA0_0.out.below hb)
  have HA1_1 := Lib.hid (HA1_0.out.below hb)
  have HMR_1 := Lib.hid (HMR_0.out.below hb)
  clear hb HB0 hcA0_0_0 hcA0_1_0 hcA1_0_0 hcA1_1_0 HA0_0 HA1_0 HMR_0
  go_wp2_with fail
  refine (szDerivation_any _ x1 _ left0 _ (show DerR _ _ x1 from HA1_1.out) (by rfl) (by omega)).mono ?_
  rintro e w2 ⟨⟨hle, rfl⟩ | ⟨hlt, rfl⟩, hb⟩
  rotate_left
  · go_wp2
    go_ret
    exact ⟨rfl, HB1.out.trans (hb.mono HB1.out.size)⟩
  have hn1 := szNDerivation hle (by omega)
  have hle2 := hle
  have hlf1 : left0 - szDerR x1 ≤ 1048576 := by omega
  generalize left0 - szDerR x1 = left1 at hlf1 ⊢
  clear hle hle2
  have hz2 : w1.heap.size ≤ w2.heap.size := hb.size
  have HB2 := Lib.hid (HB1.out.trans (hb.mono HB1.out.size))
  have hcA0_0_2 := cell_below hb hcA0_0_1
  have hcA0_1_2 := cell_below hb hcA0_1_1
  have hcA1_0_2 := cell_below hb hcA1_0_1
  have hcA1_1_2 := cell_below hb hcA1_1_1
  have HA0_2 := Lib.hid (HA0_1.out.below hb)
  have HA1_2 := Lib.hid (HA1_1.out.below hb)
  have HMR_2 := Lib.hid (HMR_1.out.below hb)
  clear hb HB1 hcA0_0_1 hcA0_1_1 hcA1_0_1 hcA1_1_1 HA0_1 HA1_1 HMR_1
  go_wp2_with fail
  go_region_held3 (fun w' => w'.cell? ⟨w.heap.size, 0, none⟩ = some (.slice aA0 x0.affixes.length cA0) ∧ w'.cell? ⟨w.heap.size, 1, none⟩ = some (.slice bA0 x0.stems.length dA0) ∧ w'.cell? ⟨w.heap.size + 1, 0, none⟩ = some (.string x1.stem) ∧ w'.cell? ⟨w.heap.size + 1, 1, none⟩ = some (.slice aA1 x1.affixes.length cA1) ∧ Below w2.heap.size w2 w')
    (first | exact ⟨hcA0_0_2, hcA0_1_2, hcA1_0_2, hcA1_1_2, (Below.refl _ _).drew⟩ | exact keepC hbk (by assumption) fun h => keepC hbk h fun h => keepC hbk h fun h => keepC hbk h fun h => keepE hbk h)
    (first
      | (go_at_call 10; refine (toGrammar_any _ x0 _ (show GraR _ _ x0 from ((fun (h : _ ∧ _ ∧ _ ∧ _ ∧ Below w2.heap.size w2 _) => HA0_2.out.below h.2.2.2.2) (by assumption))) hn0).mono ?_; rintro e wt0 ⟨_, rfl, ht0, hbk⟩; obtain ⟨at0, ct0, bt0, dt0, rfl⟩ := ht0.shape; have hbt0 := hbk)
      | (go_at_call 15; refine (toDerivation_any _ x1 _ (show DerR _ _ x1 from ((fun (h : _ ∧ _ ∧ _ ∧ _ ∧ Below w2.heap.size w2 _) => HA1_2.out.below h.2.2.2.2) (by assumption))) hn1).mono ?_; rintro e wt1 ⟨_, rfl, ht1, hbk⟩; obtain ⟨at1, ct1, rfl⟩ := ht1.shape; have hbt1 := hbk)
      | (go_at_call 14; refine (specWordOf_any _ x0 _ x1 _ (ht0.below hbt1).read ht1.read ((fun (h : _ ∧ _ ∧ _ ∧ _ ∧ Below w2.heap.size w2 _) => HMR_2.out.below h.2.2.2.2) (by assumption))).mono ?_; rintro e wl ⟨rfl, hb⟩; have hbk := hb))
  have hb := (by assumption : _ ∧ _ ∧ _ ∧ _ ∧ Below w2.heap.size w2 wl).2.2.2.2
  clear ht0 hbt0 ht1 hbt1
  obtain ⟨w3, hwl⟩ : ∃ w', w' = wl := ⟨_, rfl⟩
  subst hwl
  have hz3 : w2.heap.size ≤ w3.heap.size := hb.size
  have HB3 := Lib.hid (HB2.out.trans (hb.mono HB2.out.size))
  have hcA0_0_3 := cell_below hb hcA0_0_2
  have hcA0_1_3 := cell_below hb hcA0_1_2
  have hcA1_0_3 := cell_below hb hcA1_0_2
  have hcA1_1_3 := cell_below hb hcA1_1_2
  have HA0_3 := Lib.hid (HA0_2.out.below hb)
  have HA1_3 := Lib.hid (HA1_2.out.below hb)
  have HMR_3 := Lib.hid (HMR_2.out.below hb)
  clear hb HB2 hcA0_0_2 hcA0_1_2 hcA1_0_2 hcA1_1_2 HA0_2 HA1_2 HMR_2
  go_wp2_with fail
  refine (toGrammar_any _ x0 _ (show GraR _ _ x0 from HA0_3.out) hn0).mono ?_
  rintro e w4 ⟨_, rfl, X00, hb⟩
  have hz4 : w3.heap.size ≤ w4.heap.size := hb.size
  have HB4 := Lib.hid (HB3.out.trans (hb.mono HB3.out.size))
  have hcA0_0_4 := cell_below hb hcA0_0_3
  have hcA0_1_4 := cell_below hb hcA0_1_3
  have hcA1_0_4 := cell_below hb hcA1_0_3
  have hcA1_1_4 := cell_below hb hcA1_1_3
  have HA0_4 := Lib.hid (HA0_3.out.below hb)
  have HA1_4 := Lib.hid (HA1_3.out.below hb)
  have HMR_4 := Lib.hid (HMR_3.out.below hb)
  clear hb HB3 hcA0_0_3 hcA0_1_3 hcA1_0_3 hcA1_1_3 HA0_3 HA1_3 HMR_3
  have X0_4 := Lib.hid X00
  clear X00
  obtain ⟨aX0, cX0, bX0, dX0, rfl⟩ := X0_4.out.shape
  have hp_hcA0_0 := cell_alloc (.cells #[.slice aX0 x0.affixes.length cX0, .slice bX0 x0.stems.length dX0] 31) hcA0_0_4
  have hp_hcA0_1 := cell_alloc (.cells #[.slice aX0 x0.affixes.length cX0, .slice bX0 x0.stems.length dX0] 31) hcA0_1_4
  have hp_hcA1_0 := cell_alloc (.cells #[.slice aX0 x0.affixes.length cX0, .slice bX0 x0.stems.length dX0] 31) hcA1_0_4
  have hp_hcA1_1 := cell_alloc (.cells #[.slice aX0 x0.affixes.length cX0, .slice bX0 x0.stems.length dX0] 31) hcA1_1_4
  go_wp2_with fail
  clear hp_hcA0_0 hp_hcA0_1 hp_hcA1_0 hp_hcA1_1
  have hb := (Below.refl w4.heap.size w4).alloc (Nat.le_refl _) (.cells #[.slice aX0 x0.affixes.length cX0, .slice bX0 x0.stems.length dX0] 31)
  have hzb : (w4.alloc (.cells #[.slice aX0 x0.affixes.length cX0, .slice bX0 x0.stems.length dX0] 31)).heap.size = w4.heap.size + 1 := by simp
  have hxX0_0_5 := cell_newi w4 #[.slice aX0 x0.affixes.length cX0, .slice bX0 x0.stems.length dX0] 31 0 (.slice aX0 x0.affixes.length cX0) rfl
  have hxX0_1_5 := cell_newi w4 #[.slice aX0 x0.affixes.length cX0, .slice bX0 x0.stems.length dX0] 31 1 (.slice bX0 x0.stems.length dX0) rfl
  generalize w4.alloc (.cells #[.slice aX0 x0.affixes.length cX0, .slice bX0 x0.stems.length dX0] 31) = w5 at hb hzb hxX0_0_5 hxX0_1_5 ⊢
  have hz5 : w4.heap.size ≤ w5.heap.size := hb.size
  have HB5 := Lib.hid (HB4.out.trans (hb.mono HB4.out.size))
  have hcA0_0_5 := cell_below hb hcA0_0_4
  have hcA0_1_5 := cell_below hb hcA0_1_4
  have hcA1_0_5 := cell_below hb hcA1_0_4
  have hcA1_1_5 := cell_below hb hcA1_1_4
  have HA0_5 := Lib.hid (HA0_4.out.below hb)
  have HA1_5 := Lib.hid (HA1_4.out.below hb)
  have HMR_5 := Lib.hid (HMR_4.out.below hb)
  have X0_5 := Lib.hid (X0_4.out.below hb)
  clear hb HB4 hcA0_0_4 hcA0_1_4 hcA1_0_4 hcA1_1_4 HA0_4 HA1_4 HMR_4 X0_4
  refine (toDerivation_any _ x1 _ (show DerR _ _ x1 from HA1_5.out) hn1).mono ?_
  rintro e w6 ⟨_, rfl, X10, hb⟩
  have hz6 : w5.heap.size ≤ w6.heap.size := hb.size
  have HB6 := Lib.hid (HB5.out.trans (hb.mono HB5.out.size))
  have hcA0_0_6 := cell_below hb hcA0_0_5
  have hcA0_1_6 := cell_below hb hcA0_1_5
  have hcA1_0_6 := cell_below hb hcA1_0_5
  have hcA1_1_6 := cell_below hb hcA1_1_5
  have hxX0_0_6 := cell_below hb hxX0_0_5
  have hxX0_1_6 := cell_below hb hxX0_1_5
  have HA0_6 := Lib.hid (HA0_5.out.below hb)
  have HA1_6 := Lib.hid (HA1_5.out.below hb)
  have HMR_6 := Lib.hid (HMR_5.out.below hb)
  have X0_6 := Lib.hid (X0_5.out.below hb)
  clear hb HB5 hcA0_0_5 hcA0_1_5 hcA1_0_5 hcA1_1_5 hxX0_0_5 hxX0_1_5 HA0_5 HA1_5 HMR_5 X0_5
  have X1_6 := Lib.hid X10
  clear X10
  obtain ⟨aX1, cX1, rfl⟩ := X1_6.out.shape
  have hp_hcA0_0 := cell_alloc (.cells #[.string x1.stem, .slice aX1 x1.affixes.length cX1] 41) hcA0_0_6
  have hp_hcA0_1 := cell_alloc (.cells #[.string x1.stem, .slice aX1 x1.affixes.length cX1] 41) hcA0_1_6
  have hp_hcA1_0 := cell_alloc (.cells #[.string x1.stem, .slice aX1 x1.affixes.length cX1] 41) hcA1_0_6
  have hp_hcA1_1 := cell_alloc (.cells #[.string x1.stem, .slice aX1 x1.affixes.length cX1] 41) hcA1_1_6
  have hp_hxX0_0 := cell_alloc (.cells #[.string x1.stem, .slice aX1 x1.affixes.length cX1] 41) hxX0_0_6
  have hp_hxX0_1 := cell_alloc (.cells #[.string x1.stem, .slice aX1 x1.affixes.length cX1] 41) hxX0_1_6
  go_wp2_with fail
  clear hp_hcA0_0 hp_hcA0_1 hp_hcA1_0 hp_hcA1_1 hp_hxX0_0 hp_hxX0_1
  have hb := (Below.refl w6.heap.size w6).alloc (Nat.le_refl _) (.cells #[.string x1.stem, .slice aX1 x1.affixes.length cX1] 41)
  have hzb : (w6.alloc (.cells #[.string x1.stem, .slice aX1 x1.affixes.length cX1] 41)).heap.size = w6.heap.size + 1 := by simp
  have hxX1_0_7 := cell_newi w6 #[.string x1.stem, .slice aX1 x1.affixes.length cX1] 41 0 (.string x1.stem) rfl
  have hxX1_1_7 := cell_newi w6 #[.string x1.stem, .slice aX1 x1.affixes.length cX1] 41 1 (.slice aX1 x1.affixes.length cX1) rfl
  generalize w6.alloc (.cells #[.string x1.stem, .slice aX1 x1.affixes.length cX1] 41) = w7 at hb hzb hxX1_0_7 hxX1_1_7 ⊢
  have hz7 : w6.heap.size ≤ w7.heap.size := hb.size
  have HB7 := Lib.hid (HB6.out.trans (hb.mono HB6.out.size))
  have hcA0_0_7 := cell_below hb hcA0_0_6
  have hcA0_1_7 := cell_below hb hcA0_1_6
  have hcA1_0_7 := cell_below hb hcA1_0_6
  have hcA1_1_7 := cell_below hb hcA1_1_6
  have hxX0_0_7 := cell_below hb hxX0_0_6
  have hxX0_1_7 := cell_below hb hxX0_1_6
  have HA0_7 := Lib.hid (HA0_6.out.below hb)
  have HA1_7 := Lib.hid (HA1_6.out.below hb)
  have HMR_7 := Lib.hid (HMR_6.out.below hb)
  have X0_7 := Lib.hid (X0_6.out.below hb)
  have X1_7 := Lib.hid (X1_6.out.below hb)
  clear hb HB6 hcA0_0_6 hcA0_1_6 hcA1_0_6 hcA1_1_6 hxX0_0_6 hxX0_1_6 HA0_6 HA1_6 HMR_6 X0_6 X1_6
  refine (implWordOf_any _ x0 _ x1 _ X0_7.out.read X1_7.out.read (HML.out.below HB7.out)).mono ?_
  rintro e w8 ⟨rfl, hb⟩
  have hz8 : w7.heap.size ≤ w8.heap.size := hb.size
  have HB8 := Lib.hid (HB7.out.trans (hb.mono HB7.out.size))
  have hcA0_0_8 := cell_below hb hcA0_0_7
  have hcA0_1_8 := cell_below hb hcA0_1_7
  have hcA1_0_8 := cell_below hb hcA1_0_7
  have hcA1_1_8 := cell_below hb hcA1_1_7
  have hxX0_0_8 := cell_below hb hxX0_0_7
  have hxX0_1_8 := cell_below hb hxX0_1_7
  have hxX1_0_8 := cell_below hb hxX1_0_7
  have hxX1_1_8 := cell_below hb hxX1_1_7
  have HA0_8 := Lib.hid (HA0_7.out.below hb)
  have HA1_8 := Lib.hid (HA1_7.out.below hb)
  have HMR_8 := Lib.hid (HMR_7.out.below hb)
  have X0_8 := Lib.hid (X0_7.out.below hb)
  have X1_8 := Lib.hid (X1_7.out.below hb)
  clear hb HB7 hcA0_0_7 hcA0_1_7 hcA1_0_7 hcA1_1_7 hxX0_0_7 hxX0_1_7 hxX1_0_7 hxX1_1_7 HA0_7 HA1_7 HMR_7 X0_7 X1_7
  go_wp2_with fail
  go_region_held3 (fun w' => w'.cell? ⟨w4.heap.size, 0, none⟩ = some (.slice aX0 x0.affixes.length cX0) ∧ w'.cell? ⟨w4.heap.size, 1, none⟩ = some (.slice bX0 x0.stems.length dX0) ∧ w'.cell? ⟨w.heap.size, 0, none⟩ = some (.slice aA0 x0.affixes.length cA0) ∧ w'.cell? ⟨w.heap.size, 1, none⟩ = some (.slice bA0 x0.stems.length dA0) ∧ Below w8.heap.size w8 w')
    (first | exact ⟨hxX0_0_8, hxX0_1_8, hcA0_0_8, hcA0_1_8, (Below.refl _ _).drew⟩ | exact keepC hbk (by assumption) fun h => keepC hbk h fun h => keepC hbk h fun h => keepC hbk h fun h => keepE hbk h)
    (first
      | (go_at_call 10; refine (toGrammar_any _ x0 _ (show GraR _ _ x0 from ((fun (h : _ ∧ _ ∧ _ ∧ _ ∧ Below w8.heap.size w8 _) => HA0_8.out.below h.2.2.2.2) (by assumption))) hn0).mono ?_; rintro e wt ⟨_, rfl, ht, hbk⟩; obtain ⟨aT, cT, bT, dT, rfl⟩ := ht.shape)
      | (go_at_call 12; refine (eqGrammar_any _ _ x0 x0 _ (((fun (h : _ ∧ _ ∧ _ ∧ _ ∧ Below w8.heap.size w8 _) => X0_8.out.below h.2.2.2.2) (by assumption))).read ht.read).mono ?_; rintro e w9 ⟨rfl, hbk⟩))
  have hb := (by assumption : _ ∧ _ ∧ _ ∧ _ ∧ Below w8.heap.size w8 w9).2.2.2.2
  clear ht
  have hz9 : w8.heap.size ≤ w9.heap.size := hb.size
  have HB9 := Lib.hid (HB8.out.trans (hb.mono HB8.out.size))
  have hcA0_0_9 := cell_below hb hcA0_0_8
  have hcA0_1_9 := cell_below hb hcA0_1_8
  have hcA1_0_9 := cell_below hb hcA1_0_8
  have hcA1_1_9 := cell_below hb hcA1_1_8
  have hxX0_0_9 := cell_below hb hxX0_0_8
  have hxX0_1_9 := cell_below hb hxX0_1_8
  have hxX1_0_9 := cell_below hb hxX1_0_8
  have hxX1_1_9 := cell_below hb hxX1_1_8
  have HA0_9 := Lib.hid (HA0_8.out.below hb)
  have HA1_9 := Lib.hid (HA1_8.out.below hb)
  have HMR_9 := Lib.hid (HMR_8.out.below hb)
  have X0_9 := Lib.hid (X0_8.out.below hb)
  have X1_9 := Lib.hid (X1_8.out.below hb)
  clear hb HB8 hcA0_0_8 hcA0_1_8 hcA1_0_8 hcA1_1_8 hxX0_0_8 hxX0_1_8 hxX1_0_8 hxX1_1_8 HA0_8 HA1_8 HMR_8 X0_8 X1_8
  go_wp2_with fail
  go_region_held3 (fun w' => w'.cell? ⟨w6.heap.size, 0, none⟩ = some (.string x1.stem) ∧ w'.cell? ⟨w6.heap.size, 1, none⟩ = some (.slice aX1 x1.affixes.length cX1) ∧ w'.cell? ⟨w.heap.size + 1, 0, none⟩ = some (.string x1.stem) ∧ w'.cell? ⟨w.heap.size + 1, 1, none⟩ = some (.slice aA1 x1.affixes.length cA1) ∧ Below w9.heap.size w9 w')
    (first | exact ⟨hxX1_0_9, hxX1_1_9, hcA1_0_9, hcA1_1_9, (Below.refl _ _).drew⟩ | exact keepC hbk (by assumption) fun h => keepC hbk h fun h => keepC hbk h fun h => keepC hbk h fun h => keepE hbk h)
    (first
      | (go_at_call 15; refine (toDerivation_any _ x1 _ (show DerR _ _ x1 from ((fun (h : _ ∧ _ ∧ _ ∧ _ ∧ Below w9.heap.size w9 _) => HA1_9.out.below h.2.2.2.2) (by assumption))) hn1).mono ?_; rintro e wt ⟨_, rfl, ht, hbk⟩; obtain ⟨aT, cT, rfl⟩ := ht.shape)
      | (go_at_call 17; refine (eqDerivation_any _ _ x1 x1 _ (((fun (h : _ ∧ _ ∧ _ ∧ _ ∧ Below w9.heap.size w9 _) => X1_9.out.below h.2.2.2.2) (by assumption))).read ht.read).mono ?_; rintro e w10 ⟨rfl, hbk⟩))
  have hb := (by assumption : _ ∧ _ ∧ _ ∧ _ ∧ Below w9.heap.size w9 w10).2.2.2.2
  clear ht
  have hz10 : w9.heap.size ≤ w10.heap.size := hb.size
  have HB10 := Lib.hid (HB9.out.trans (hb.mono HB9.out.size))
  have hcA0_0_10 := cell_below hb hcA0_0_9
  have hcA0_1_10 := cell_below hb hcA0_1_9
  have hcA1_0_10 := cell_below hb hcA1_0_9
  have hcA1_1_10 := cell_below hb hcA1_1_9
  have hxX0_0_10 := cell_below hb hxX0_0_9
  have hxX0_1_10 := cell_below hb hxX0_1_9
  have hxX1_0_10 := cell_below hb hxX1_0_9
  have hxX1_1_10 := cell_below hb hxX1_1_9
  have HA0_10 := Lib.hid (HA0_9.out.below hb)
  have HA1_10 := Lib.hid (HA1_9.out.below hb)
  have HMR_10 := Lib.hid (HMR_9.out.below hb)
  have X0_10 := Lib.hid (X0_9.out.below hb)
  have X1_10 := Lib.hid (X1_9.out.below hb)
  clear hb HB9 hcA0_0_9 hcA0_1_9 hcA1_0_9 hcA1_1_9 hxX0_0_9 hxX0_1_9 hxX1_0_9 hxX1_1_9 HA0_9 HA1_9 HMR_9 X0_9 X1_9
  go_wp2
  go_ret
  exact ⟨rfl, HB10.out⟩

namespace fnExactWordOf
open Go.ChangeShapes Go.WideShapes Go.ChangeAt Go.RowKit
open Go.ChangeMaps (open_string shut_string)
set_option maxRecDepth 100000 in
theorem lifted (os : Os) (started : os.Started) (H : Type) (enc : TypeId × Value → H) :
      ReturnsInHanded {} Tryd.checked os 4 .any (fun w args => (Rows.fnExactWordOfSpec.pre enc Tryd.prog Tryd.f4 Rows.fnExactWordOfRow.domain false w args ∧ laidMetH Tryd.prog Rows.fnExactWordOfRow.laid w) ∧ sizedMet enc Tryd.prog Tryd.f4 (OpenSpec.ofChange Rows.fnExactWordOfSpec) false w args) (Rows.fnExactWordOfSpec.post enc Tryd.prog Tryd.f4 false true false false) := by
  refine handed_and_shaped (C := Tryd.checked) (X := fun w _ => laidMetH Tryd.prog Rows.fnExactWordOfRow.laid w) (fun _ _ _ hh h => h.of_heap hh) Tryd.own started (by kernel_rfl) Tryd.func4
    (ChangeSpec.witness_shaped (enc := enc) (C := Tryd.checked) (os := os) (X := fun w _ => laidMetH Tryd.prog Rows.fnExactWordOfRow.laid w) false (World.laidAll Tryd.prog os Rows.fnExactWordOfRow.laid) #[.agg #[.slice none 0 0, .slice none 0 0], .agg #[.string ByteArray.empty, .slice none 0 0]] 8 (World.laidAll_os _ _ _)
      (World.shaped_of_ZipB (by kernel_rfl) (by kernel_rfl)) (by kernel_rfl) (by kernel_rfl) (by kernel_rfl)
      (by rw [MakeChecks.laidMetH_plain _ _ _ (by kernel_rfl)]; exact laidMet_laidAll _ (by kernel_rfl) (by kernel_rfl))) ?_
  intro W base args ds gs before hval0 hW hsh _
  have hval : ∀ (j : Nat) t v, Tryd.f4.params[j]? = some t → args[j]? = some v → Value.okWide Tryd.prog W .any base t v := hval0
  have hW' := hW
  obtain ⟨p, q, hA0, hV, rfl, hfz, hnd⟩ := hW
  have hA : DataW.TrodAll enc Tryd.prog W 0 (fun _ => true) true Tryd.f4.params.toList args.toList ds p := hA0
  rw [Tryd.params4] at hA hval
  obtain ⟨v0, vs0, d0, ds0, p0, q0, hargs, rfl, rfl, h0, r0⟩ := trodAll_cons hA
  obtain ⟨v1, vs1, d1, ds1, p1, q1, rfl, rfl, rfl, h1, r1⟩ := trodAll_cons r0
  obtain ⟨rfl, rfl, rfl⟩ := trodAll_nil r1
  obtain rfl : args = #[v0, v1] := by cases args; simp_all
  obtain ⟨rfl, rfl⟩ := trodVars_none hV
  obtain ⟨a0, w0⟩ := open_Grammar (hval 0 25 v0 rfl rfl) h0
  obtain ⟨a1, w1⟩ := open_Derivation (hval 1 37 v1 rfl rfl) h1
  refine (fnExactWordOf_walk v0 a0 w0 v1 a1 w1 (w := W) (hML := MaxL.shaped hsh)).mono fun e W' ⟨he, hg⟩ => ?_
  subst he
  exact ⟨_, rfl, law_post Tryd.laidOut (by kernel_rfl) (by kernel_rfl) Tryd.underlying4 rfl rfl hW' hg⟩

theorem over : Rows.fnExactWordOfRow.holds Tryd.pinned (OpenSpec.ofChange Rows.fnExactWordOfSpec) :=
  OpenClaim.holds_of_wide 4 Tryd.f4 rfl rfl rfl rfl rfl rfl rfl ⟨rfl, rfl, rfl, rfl, rfl⟩ rfl rfl rfl rfl rfl (by kernel_rfl) Tryd.func4 (by kernel_rfl)
    (of_decide_eq_true (by kernel_rfl)) (by unfold Func.isWrapper; first | (rw [if_pos (by decide +kernel)]; kernel_rfl) | (rw [if_neg (by decide +kernel)]; exact ⟨rfl, rfl⟩))
    (fun os started H enc _ => lifted os started H enc)

theorem proved : Rows.FnExactWordOfCardSaid :=
  Claim7.holds_tied_plain_at .later [] [.data, .pinned] true (true, "af829414c15e4f64bc174ba6f0658db67e948a055b0501301af12220bb6dee4b") false over (fun _ h => by cases h) (by kernel_rfl) (fun _ h => by cases h) fnExactWordOf_row_tie rfl ⟨rfl, rfl⟩ (by kernel_rfl) rfl
    (fun f fn hf hfn => by
      obtain rfl : f = 4 := Option.some.inj ((show Tryd.prog.funcNamed "loop.example/g00911/laws.FnExactWordOf" = some 4 by kernel_rfl).symm.trans hf) |>.symm
      obtain rfl : fn = Tryd.f4 := (Option.some.inj (Tryd.func4.symm.trans hfn)).symm
      exact ⟨by kernel_rfl, fun j t ht => by
        rw [Tryd.params4] at ht
        have hm : t ∈ [25, 37] := by simpa using Array.mem_of_getElem? ht
        have hall : ([25, 37].all fun u => !Tryd.prog.wantsStandIn u) = true := by kernel_rfl
        exact (show Tryd.prog.wantsStandIn t = false by simpa using List.all_eq_true.1 hall t hm)⟩)
    (by kernel_rfl)
end fnExactWordOf

end Go.Proofs.YtgefgdkejenhnaaDoor
