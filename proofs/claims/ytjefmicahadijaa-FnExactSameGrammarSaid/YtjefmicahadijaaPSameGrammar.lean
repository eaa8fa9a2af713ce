/- FnExactSameGrammar returns true for all pairs of grammars: the program and the reference answer alike, and the arguments are as they were. No condition. -/
import Derived.Test.YtjefmicahadijaaF
import Derived.Test.YtjefmicahadijaaGw
namespace Go.Proofs.Ytjefmicahadijaa
open Go.RowKit
attribute [local irreducible] Calls in
set_option maxHeartbeats 4000000 in
set_option maxRecDepth 20000 in
theorem fnExactSameGrammar_walk (w : World) (v0 : Value) (x0 : GraD) (hv0 : GraR w v0 x0) (v1 : Value) (x1 : GraD) (hv1 : GraR w v1 x1) :
    Calls Try.prog 3 #[v0, v1] w fun e w' => e = .returned (.bool true) ∧ Below w.heap.size w w' := by
  have HA0 := Lib.hid hv0
  obtain ⟨aA0, cA0, bA0, dA0, rfl⟩ := hv0.shape
  have HA1 := Lib.hid hv1
  obtain ⟨aA1, cA1, bA1, dA1, rfl⟩ := hv1.shape
  go_enter Try.func3, Try.ntmps3
  go_wp2_with fail
  have HB0 := ((Below.refl w.heap.size w).alloc (by simp) (.cells #[.slice aA0 x0.affixes.length cA0, .slice bA0 x0.stems.length dA0] 25)).alloc (by simp) (.cells #[.slice aA1 x1.affixes.length cA1, .slice bA1 x1.stems.length dA1] 25)
  have hcA0_0_0 : ((w.alloc (.cells #[.slice aA0 x0.affixes.length cA0, .slice bA0 x0.stems.length dA0] 25)).alloc (.cells #[.slice aA1 x1.affixes.length cA1, .slice bA1 x1.stems.length dA1] 25)).cell? ⟨w.heap.size, 0, none⟩ = some (.slice aA0 x0.affixes.length cA0) := cell_alloc (.cells #[.slice aA1 x1.affixes.length cA1, .slice bA1 x1.stems.length dA1] 25) (cell_newi (w) #[.slice aA0 x0.affixes.length cA0, .slice bA0 x0.stems.length dA0] 25 0 (.slice aA0 x0.affixes.length cA0) rfl)
  have hcA0_1_0 : ((w.alloc (.cells #[.slice aA0 x0.affixes.length cA0, .slice bA0 x0.stems.length dA0] 25)).alloc (.cells #[.slice aA1 x1.affixes.length cA1, .slice bA1 x1.stems.length dA1] 25)).cell? ⟨w.heap.size, 1, none⟩ = some (.slice bA0 x0.stems.length dA0) := cell_alloc (.cells #[.slice aA1 x1.affixes.length cA1, .slice bA1 x1.stems.length dA1] 25) (cell_newi (w) #[.slice aA0 x0.affixes.length cA0, .slice bA0 x0.stems.length dA0] 25 1 (.slice bA0 x0.stems.length dA0) rfl)
  have hcA1_0_0 : ((w.alloc (.cells #[.slice aA0 x0.affixes.length cA0, .slice bA0 x0.stems.length dA0] 25)).alloc (.cells #[.slice aA1 x1.affixes.length cA1, .slice bA1 x1.stems.length dA1] 25)).cell? ⟨w.heap.size + 1, 0, none⟩ = some (.slice aA1 x1.affixes.length cA1) := by simpa only [World.size_alloc] using cell_newi ((w).alloc (.cells #[.slice aA0 x0.affixes.length cA0, .slice bA0 x0.stems.length dA0] 25)) #[.slice aA1 x1.affixes.length cA1, .slice bA1 x1.stems.length dA1] 25 0 (.slice aA1 x1.affixes.length cA1) rfl
  have hcA1_1_0 : ((w.alloc (.cells #[.slice aA0 x0.affixes.length cA0, .slice bA0 x0.stems.length dA0] 25)).alloc (.cells #[.slice aA1 x1.affixes.length cA1, .slice bA1 x1.stems.length dA1] 25)).cell? ⟨w.heap.size + 1, 1, none⟩ = some (.slice bA1 x1.stems.length dA1) := by simpa only [World.size_alloc] using cell_newi ((w).alloc (.cells #[.slice aA0 x0.affixes.length cA0, .slice bA0 x0.stems.length dA0] 25)) #[.slice aA1 x1.affixes.length cA1, .slice bA1 x1.stems.length dA1] 25 1 (.slice bA1 x1.stems.length dA1) rfl
  have hz0 : ((w.alloc (.cells #[.slice aA0 x0.affixes.length cA0, .slice bA0 x0.stems.length dA0] 25)).alloc (.cells #[.slice aA1 x1.affixes.length cA1, .slice bA1 x1.stems.length dA1] 25)).heap.size = w.heap.size + 2 := by simp
  generalize (w.alloc (.cells #[.slice aA0 x0.affixes.length cA0, .slice bA0 x0.stems.length dA0] 25)).alloc (.cells #[.slice aA1 x1.affixes.length cA1, .slice bA1 x1.stems.length dA1] 25) = w0 at HB0 hz0 hcA0_0_0 hcA0_1_0 hcA1_0_0 hcA1_1_0 ⊢
  have HA0_0 := Lib.hid (HA0.out.below HB0)
  have HA1_0 := Lib.hid (HA1.out.below HB0)
  have HB0 := Lib.hid HB0
  clear HA0 HA1
  refine (szGrammar_any _ x0 _ 1048576 _ (show GraR _ _ x0 from HA0_0.out) (by omega) (by omega)).mono ?_
  rintro e w1 ⟨⟨hle, rfl⟩ | ⟨hlt, rfl⟩, hb⟩
  rotate_left
  · go_wp2
    go_ret
    exact ⟨rfl, HB0.out.trans (hb.mono HB0.out.size)⟩
  have hn0 := szNGrammar hle (by omega)
  have hle2 := hle
  have hlf0 : 1048576 - szGraR x0 ≤ 1048576 := by omega
  generalize 1048576 - szGraR x0 = left0 at hlf0 ⊢
  clear hle hle2
  have hz1 : w0.heap.size ≤ w1.heap.size := hb.size
  have HB1 := Lib.hid (HB0.out.trans (hb.mono HB0.out.size))
  have hcA0_0_1 := cell_below hb hcA0_0_0
  have hcA0_1_1 := cell_below hb hcA0_1_0
  have hcA1_0_1 := cell_below hb hcA1_0_0
  have hcA1_1_1 := cell_below hb hcA1_1_0
  have HA0_1 := Lib.hid (HA0_0.out.below hb)
  have HA1_1 := Lib.hid (HA1_0.out.below hb)
  clear hb HB0 hcA0_0_0 hcA0_1_0 hcA1_0_0 hcA1_1_0 HA0_0 HA1_0
  go_wp2_with fail
  refine (szGrammar_any _ x1 _ left0 _ (show GraR _ _ x1 from HA1_1.out) (by rfl) (by omega)).mono ?_
  rintro e w2 ⟨⟨hle, rfl⟩ | ⟨hlt, rfl⟩, hb⟩
  rotate_left
  · go_wp2
    go_ret
    exact ⟨rfl, HB1.out.trans (hb.mono HB1.out.size)⟩
  have hn1 := szNGrammar hle (by omega)
  have hle2 := hle
  have hlf1 : left0 - szGraR x1 ≤ 1048576 := by omega
  generalize left0 - szGraR x1 = left1 at hlf1 ⊢
  clear hle hle2
  have hz2 : w1.heap.size ≤ w2.heap.size := hb.size
  have HB2 := Lib.hid (HB1.out.trans (hb.mono HB1.out.size))
  have hcA0_0_2 := cell_below hb hcA0_0_1
  have hcA0_1_2 := cell_below hb hcA0_1_1
  have hcA1_0_2 := cell_below hb hcA1_0_1
  have hcA1_1_2 := cell_below hb hcA1_1_1
  have HA0_2 := Lib.hid (HA0_1.out.below hb)
  have HA1_2 := Lib.hid (HA1_1.out.below hb)
  clear hb HB1 hcA0_0_1 hcA0_1_1 hcA1_0_1 hcA1_1_1 HA0_1 HA1_1
  go_wp2_with fail
  go_region_held3 (fun w' => w'.cell? ⟨w.heap.size, 0, none⟩ = some (.slice aA0 x0.affixes.length cA0) ∧ w'.cell? ⟨w.heap.size, 1, none⟩ = some (.slice bA0 x0.stems.length dA0) ∧ w'.cell? ⟨w.heap.size + 1, 0, none⟩ = some (.slice aA1 x1.affixes.length cA1) ∧ w'.cell? ⟨w.heap.size + 1, 1, none⟩ = some (.slice bA1 x1.stems.length dA1) ∧ Below w2.heap.size w2 w')
    (first | exact ⟨hcA0_0_2, hcA0_1_2, hcA1_0_2, hcA1_1_2, (Below.refl _ _).drew⟩ | exact keepC hbk (by assumption) fun h => keepC hbk h fun h => keepC hbk h fun h => keepC hbk h fun h => keepE hbk h)
    (first
      | (go_at_call 6; refine (toGrammar_any _ x0 _ (show GraR _ _ x0 from ((fun (h : _ ∧ _ ∧ _ ∧ _ ∧ Below w2.heap.size w2 _) => HA0_2.out.below h.2.2.2.2) (by assumption))) hn0).mono ?_; rintro e wt0 ⟨_, rfl, ht0, hbk⟩; obtain ⟨at0, ct0, bt0, dt0, rfl⟩ := ht0.shape; have hbt0 := hbk)
      | (go_at_call 6; refine (toGrammar_any _ x1 _ (show GraR _ _ x1 from ((fun (h : _ ∧ _ ∧ _ ∧ _ ∧ Below w2.heap.size w2 _) => HA1_2.out.below h.2.2.2.2) (by assumption))) hn1).mono ?_; rintro e wt1 ⟨_, rfl, ht1, hbk⟩; obtain ⟨at1, ct1, bt1, dt1, rfl⟩ := ht1.shape; have hbt1 := hbk)
      | (go_at_call 5; refine (specSameGrammar_any _ x0 _ x1 _ (ht0.below hbt1).read ht1.read ).mono ?_; rintro e wl ⟨rfl, hb⟩; have hbk := hb))
  have hb := (by assumption : _ ∧ _ ∧ _ ∧ _ ∧ Below w2.heap.size w2 wl).2.2.2.2
  clear ht0 hbt0 ht1 hbt1
  obtain ⟨w3, hwl⟩ : ∃ w', w' = wl := ⟨_, rfl⟩
  subst hwl
  have hz3 : w2.heap.size ≤ w3.heap.size := hb.size
  have HB3 := Lib.hid (HB2.out.trans (hb.mono HB2.out.size))
  have hcA0_0_3 := cell_below hb hcA0_0_2
  have hcA0_1_3 := cell_below hb hcA0_1_2
  have hcA1_0_3 := cell_below hb hcA1_0_2
  have hcA1_1_3 := cell_below hb hcA1_1_2
  have HA0_3 := Lib.hid (HA0_2.out.below hb)
  have HA1_3 := Lib.hid (HA1_2.out.below hb)
  clear hb HB2 hcA0_0_2 hcA0_1_2 hcA1_0_2 hcA1_1_2 HA0_2 HA1_2
  go_wp2_with fail
  refine (toGrammar_any _ x0 _ (show GraR _ _ x0 from HA0_3.out) hn0).mono ?_
  rintro e w4 ⟨_, rfl, X00, hb⟩
  have hz4 : w3.heap.size ≤ w4.heap.size := hb.size
  have HB4 := Lib.hid (HB3.out.trans (hb.mono HB3.out.size))
  have hcA0_0_4 := cell_below hb hcA0_0_3
  have hcA0_1_4 := cell_below hb hcA0_1_3
  have hcA1_0_4 := cell_below hb hcA1_0_3
  have hcA1_1_4 := cell_below hb hcA1_1_3
  have HA0_4 := Lib.hid (HA0_3.out.below hb)
  have HA1_4 := Lib.hid (HA1_3.out.below hb)
  clear hb HB3 hcA0_0_3 hcA0_1_3 hcA1_0_3 hcA1_1_3 HA0_3 HA1_3
  have X0_4 := Lib.hid X00
  clear X00
  obtain ⟨aX0, cX0, bX0, dX0, rfl⟩ := X0_4.out.shape
  have hp_hcA0_0 := cell_alloc (.cells #[.slice aX0 x0.affixes.length cX0, .slice bX0 x0.stems.length dX0] 31) hcA0_0_4
  have hp_hcA0_1 := cell_alloc (.cells #[.slice aX0 x0.affixes.length cX0, .slice bX0 x0.stems.length dX0] 31) hcA0_1_4
  have hp_hcA1_0 := cell_alloc (.cells #[.slice aX0 x0.affixes.length cX0, .slice bX0 x0.stems.length dX0] 31) hcA1_0_4
  have hp_hcA1_1 := cell_alloc (.cells #[.slice aX0 x0.affixes.length cX0, .slice bX0 x0.stems.length dX0] 31) hcA1_1_4
  go_wp2_with fail
  clear hp_hcA0_0 hp_hcA0_1 hp_hcA1_0 hp_hcA1_1
  have hb := (Below.refl w4.heap.size w4).alloc (Nat.le_refl _) (.cells #[.slice aX0 x0.affixes.length cX0, .slice bX0 x0.stems.length dX0] 31)
  have hzb : (w4.alloc (.cells #[.slice aX0 x0.affixes.length cX0, .slice bX0 x0.stems.length dX0] 31)).heap.size = w4.heap.size + 1 := by simp
  have hxX0_0_5 := cell_newi w4 #[.slice aX0 x0.affixes.length cX0, .slice bX0 x0.stems.length dX0] 31 0 (.slice aX0 x0.affixes.length cX0) rfl
  have hxX0_1_5 := cell_newi w4 #[.slice aX0 x0.affixes.length cX0, .slice bX0 x0.stems.length dX0] 31 1 (.slice bX0 x0.stems.length dX0) rfl
  generalize w4.alloc (.cells #[.slice aX0 x0.affixes.length cX0, .slice bX0 x0.stems.length dX0] 31) = w5 at hb hzb hxX0_0_5 hxX0_1_5 ⊢
  have hz5 : w4.heap.size ≤ w5.heap.size := hb.size
  have HB5 := Lib.hid (HB4.out.trans (hb.mono HB4.out.size))
  have hcA0_0_5 := cell_below hb hcA0_0_4
  have hcA0_1_5 := cell_below hb hcA0_1_4
  have hcA1_0_5 := cell_below hb hcA1_0_4
  have hcA1_1_5 := cell_below hb hcA1_1_4
  have HA0_5 := Lib.hid (HA0_4.out.below hb)
  have HA1_5 := Lib.hid (HA1_4.out.below hb)
  have X0_5 := Lib.hid (X0_4.out.below hb)
  clear hb HB4 hcA0_0_4 hcA0_1_4 hcA1_0_4 hcA1_1_4 HA0_4 HA1_4 X0_4
  refine (toGrammar_any _ x1 _ (show GraR _ _ x1 from HA1_5.out) hn1).mono ?_
  rintro e w6 ⟨_, rfl, X10, hb⟩
  have hz6 : w5.heap.size ≤ w6.heap.size := hb.size
  have HB6 := Lib.hid (HB5.out.trans (hb.mono HB5.out.size))
  have hcA0_0_6 := cell_below hb hcA0_0_5
  have hcA0_1_6 := cell_below hb hcA0_1_5
  have hcA1_0_6 := cell_below hb hcA1_0_5
  have hcA1_1_6 := cell_below hb hcA1_1_5
  have hxX0_0_6 := cell_below hb hxX0_0_5
  have hxX0_1_6 := cell_below hb hxX0_1_5
  have HA0_6 := Lib.hid (HA0_5.out.below hb)
  have HA1_6 := Lib.hid (HA1_5.out.below hb)
  have X0_6 := Lib.hid (X0_5.out.below hb)
  clear hb HB5 hcA0_0_5 hcA0_1_5 hcA1_0_5 hcA1_1_5 hxX0_0_5 hxX0_1_5 HA0_5 HA1_5 X0_5
  have X1_6 := Lib.hid X10
  clear X10
  obtain ⟨aX1, cX1, bX1, dX1, rfl⟩ := X1_6.out.shape
  have hp_hcA0_0 := cell_alloc (.cells #[.slice aX1 x1.affixes.length cX1, .slice bX1 x1.stems.length dX1] 31) hcA0_0_6
  have hp_hcA0_1 := cell_alloc (.cells #[.slice aX1 x1.affixes.length cX1, .slice bX1 x1.stems.length dX1] 31) hcA0_1_6
  have hp_hcA1_0 := cell_alloc (.cells #[.slice aX1 x1.affixes.length cX1, .slice bX1 x1.stems.length dX1] 31) hcA1_0_6
  have hp_hcA1_1 := cell_alloc (.cells #[.slice aX1 x1.affixes.length cX1, .slice bX1 x1.stems.length dX1] 31) hcA1_1_6
  have hp_hxX0_0 := cell_alloc (.cells #[.slice aX1 x1.affixes.length cX1, .slice bX1 x1.stems.length dX1] 31) hxX0_0_6
  have hp_hxX0_1 := cell_alloc (.cells #[.slice aX1 x1.affixes.length cX1, .slice bX1 x1.stems.length dX1] 31) hxX0_1_6
  go_wp2_with fail
  clear hp_hcA0_0 hp_hcA0_1 hp_hcA1_0 hp_hcA1_1 hp_hxX0_0 hp_hxX0_1
  have hb := (Below.refl w6.heap.size w6).alloc (Nat.le_refl _) (.cells #[.slice aX1 x1.affixes.length cX1, .slice bX1 x1.stems.length dX1] 31)
  have hzb : (w6.alloc (.cells #[.slice aX1 x1.affixes.length cX1, .slice bX1 x1.stems.length dX1] 31)).heap.size = w6.heap.size + 1 := by simp
  have hxX1_0_7 := cell_newi w6 #[.slice aX1 x1.affixes.length cX1, .slice bX1 x1.stems.length dX1] 31 0 (.slice aX1 x1.affixes.length cX1) rfl
  have hxX1_1_7 := cell_newi w6 #[.slice aX1 x1.affixes.length cX1, .slice bX1 x1.stems.length dX1] 31 1 (.slice bX1 x1.stems.length dX1) rfl
  generalize w6.alloc (.cells #[.slice aX1 x1.affixes.length cX1, .slice bX1 x1.stems.length dX1] 31) = w7 at hb hzb hxX1_0_7 hxX1_1_7 ⊢
  have hz7 : w6.heap.size ≤ w7.heap.size := hb.size
  have HB7 := Lib.hid (HB6.out.trans (hb.mono HB6.out.size))
  have hcA0_0_7 := cell_below hb hcA0_0_6
  have hcA0_1_7 := cell_below hb hcA0_1_6
  have hcA1_0_7 := cell_below hb hcA1_0_6
  have hcA1_1_7 := cell_below hb hcA1_1_6
  have hxX0_0_7 := cell_below hb hxX0_0_6
  have hxX0_1_7 := cell_below hb hxX0_1_6
  have HA0_7 := Lib.hid (HA0_6.out.below hb)
  have HA1_7 := Lib.hid (HA1_6.out.below hb)
  have X0_7 := Lib.hid (X0_6.out.below hb)
  have X1_7 := Lib.hid (X1_6.out.below hb)
  clear hb HB6 hcA0_0_6 hcA0_1_6 hcA1_0_6 hcA1_1_6 hxX0_0_6 hxX0_1_6 HA0_6 HA1_6 X0_6 X1_6
  refine (implSameGrammar_any _ x0 _ x1 _ X0_7.out.read X1_7.out.read ).mono ?_
  rintro e w8 ⟨rfl, hb⟩
  have hz8 : w7.heap.size ≤ w8.heap.size := hb.size
  have HB8 := Lib.hid (HB7.out.trans (hb.mono HB7.out.size))
  have hcA0_0_8 := cell_below hb hcA0_0_7
  have hcA0_1_8 := cell_below hb hcA0_1_7
  have hcA1_0_8 := cell_below hb hcA1_0_7
  have hcA1_1_8 := cell_below hb hcA1_1_7
  have hxX0_0_8 := cell_below hb hxX0_0_7
  have hxX0_1_8 := cell_below hb hxX0_1_7
  have hxX1_0_8 := cell_below hb hxX1_0_7
  have hxX1_1_8 := cell_below hb hxX1_1_7
  have HA0_8 := Lib.hid (HA0_7.out.below hb)
  have HA1_8 := Lib.hid (HA1_7.out.below hb)
  have X0_8 := Lib.hid (X0_7.out.below hb)
  have X1_8 := Lib.hid (X1_7.out.below hb)
  clear hb HB7 hcA0_0_7 hcA0_1_7 hcA1_0_7 hcA1_1_7 hxX0_0_7 hxX0_1_7 hxX1_0_7 hxX1_1_7 HA0_7 HA1_7 X0_7 X1_7
  go_wp2_with fail
  go_region_held3 (fun w' => w'.cell? ⟨w4.heap.size, 0, none⟩ = some (.slice aX0 x0.affixes.length cX0) ∧ w'.cell? ⟨w4.heap.size, 1, none⟩ = some (.slice bX0 x0.stems.length dX0) ∧ w'.cell? ⟨w.heap.size, 0, none⟩ = some (.slice aA0 x0.affixes.length cA0) ∧ w'.cell? ⟨w.heap.size, 1, none⟩ = some (.slice bA0 x0.stems.length dA0) ∧ Below w8.heap.size w8 w')
    (first | exact ⟨hxX0_0_8, hxX0_1_8, hcA0_0_8, hcA0_1_8, (Below.refl _ _).drew⟩ | exact keepC hbk (by assumption) fun h => keepC hbk h fun h => keepC hbk h fun h => keepC hbk h fun h => keepE hbk h)
    (first
      | (go_at_call 6; refine (toGrammar_any _ x0 _ (show GraR _ _ x0 from ((fun (h : _ ∧ _ ∧ _ ∧ _ ∧ Below w8.heap.size w8 _) => HA0_8.out.below h.2.2.2.2) (by assumption))) hn0).mono ?_; rintro e wt ⟨_, rfl, ht, hbk⟩; obtain ⟨aT, cT, bT, dT, rfl⟩ := ht.shape)
      | (go_at_call 8; refine (eqGrammar_any _ _ x0 x0 _ (((fun (h : _ ∧ _ ∧ _ ∧ _ ∧ Below w8.heap.size w8 _) => X0_8.out.below h.2.2.2.2) (by assumption))).read ht.read).mono ?_; rintro e w9 ⟨rfl, hbk⟩))
  have hb := (by assumption : _ ∧ _ ∧ _ ∧ _ ∧ Below w8.heap.size w8 w9).2.2.2.2
  clear ht
  have hz9 : w8.heap.size ≤ w9.heap.size := hb.size
  have HB9 := Lib.hid (HB8.out.trans (hb.mono HB8.out.size))
  have hcA0_0_9 := cell_below hb hcA0_0_8
  have hcA0_1_9 := cell_below hb hcA0_1_8
  have hcA1_0_9 := cell_below hb hcA1_0_8
  have hcA1_1_9 := cell_below hb hcA1_1_8
  have hxX0_0_9 := cell_below hb hxX0_0_8
  have hxX0_1_9 := cell_below hb hxX0_1_8
  have hxX1_0_9 := cell_below hb hxX1_0_8
  have hxX1_1_9 := cell_below hb hxX1_1_8
  have HA0_9 := Lib.hid (HA0_8.out.below hb)
  have HA1_9 := Lib.hid (HA1_8.out.below hb)
  have X0_9 := Lib.hid (X0_8.out.below hb)
  have X1_9 := Lib.hid (X1_8.out.below hb)
  clear hb HB8 hcA0_0_8 hcA0_1_8 hcA1_0_8 hcA1_1_8 hxX0_0_8 hxX0_1_8 hxX1_0_8 hxX1_1_8 HA0_8 HA1_8 X0_8 X1_8
  go_wp2_with fail
  go_region_held3 (fun w' => w'.cell? ⟨w6.heap.size, 0, none⟩ = some (.slice aX1 x1.affixes.length cX1) ∧ w'.cell? ⟨w6.heap.size, 1, none⟩ = some (.slice bX1 x1.stems.length dX1) ∧ w'.cell? ⟨w.heap.size + 1, 0, none⟩ = some (.slice aA1 x1.affixes.length cA1) ∧ w'.cell? ⟨w.heap.size + 1, 1, none⟩ = some (.slice bA1 x1.stems.length dA1) ∧ Below w9.heap.size w9 w')
    (first | exact ⟨hxX1_0_9, hxX1_1_9, hcA1_0_9, hcA1_1_9, (Below.refl _ _).drew⟩ | exact keepC hbk (by assumption) fun h => keepC hbk h fun h => keepC hbk h fun h => keepC hbk h fun h => keepE hbk h)
    (first
      | (go_at_call 6; refine (toGrammar_any _ x1 _ (show GraR _ _ x1 from ((fun (h : _ ∧ _ ∧ _ ∧ _ ∧ Below w9.heap.size w9 _) => HA1_9.out.below h.2.2.2.2) (by assumption))) hn1).mono ?_; rintro e wt ⟨_, rfl, ht, hbk⟩; obtain ⟨aT, cT, bT, dT, rfl⟩ := ht.shape)
      | (go_at_call 8; refine (eqGrammar_any _ _ x1 x1 _ (((fun (h : _ ∧ _ ∧ _ ∧ _ ∧ Below w9.heap.size w9 _) => X1_9.out.below h.2.2.2.2) (by assumption))).read ht.read).mono ?_; rintro e w10 ⟨rfl, hbk⟩))
  have hb := (by assumption : _ ∧ _ ∧ _ ∧ _ ∧ Below w9.heap.size w9 w10).2.2.2.2
  clear ht
  have hz10 : w9.heap.size ≤ w10.heap.size := hb.size
  have HB10 := Lib.hid (HB9.out.trans (hb.mono HB9.out.size))
  have hcA0_0_10 := cell_below hb hcA0_0_9
  have hcA0_1_10 := cell_below hb hcA0_1_9
  have hcA1_0_10 := cell_below hb hcA1_0_9
  have hcA1_1_10 := cell_below hb hcA1_1_9
  have hxX0_0_10 := cell_below hb hxX0_0_9
  have hxX0_1_10 := cell_below hb hxX0_1_9
  have hxX1_0_10 := cell_below hb hxX1_0_9
  have hxX1_1_10 := cell_below hb hxX1_1_9
  have HA0_10 := Lib.hid (HA0_9.out.below hb)
  have HA1_10 := Lib.hid (HA1_9.out.below hb)
  have X0_10 := Lib.hid (X0_9.out.below hb)
  have X1_10 := Lib.hid (X1_9.out.below hb)
  clear hb HB9 hcA0_0_9 hcA0_1_9 hcA1_0_9 hcA1_1_9 hxX0_0_9 hxX0_1_9 hxX1_0_9 hxX1_1_9 HA0_9 HA1_9 X0_9 X1_9
  go_wp2
  go_ret
  exact ⟨rfl, HB10.out⟩

namespace fnExactSameGrammar
open Go.ChangeShapes Go.WideShapes Go.ChangeAt Go.RowKit
open Go.ChangeMaps (open_string shut_string)
set_option maxRecDepth 100000 in
theorem lifted (os : Os) (started : os.Started) (H : Type) (enc : TypeId × Value → H) :
    ReturnsInHanded {} Try.checked os 3 .any (Rows.fnExactSameGrammarSpec.pre6 enc Try.prog Try.f3 Rows.fnExactSameGrammarRow.domain false) (Rows.fnExactSameGrammarSpec.post enc Try.prog Try.f3 false true false false) := by
  refine returnsInHanded_of_change (C := Try.checked) Try.own started (by kernel_rfl) Try.func3
    (ChangeSpec.witness6 (enc := enc) (C := Try.checked) false ⟨#[], #[.agg #[.slice none 0 0, .slice none 0 0], .agg #[.slice none 0 0, .slice none 0 0]], []⟩ 8 (by kernel_rfl) (by kernel_rfl) (by kernel_rfl) (by kernel_rfl)) ?_
  intro W base args ds gs before hval0 hW hcnd _
  have hval : ∀ (j : Nat) t v, Try.f3.params[j]? = some t → args[j]? = some v → Value.okWide Try.prog W .any base t v := hval0
  have hW' := hW
  obtain ⟨p, q, hA0, hV, rfl, hfz, hnd⟩ := hW
  have hA : DataW.TrodAll enc Try.prog W 0 (fun _ => true) true Try.f3.params.toList args.toList ds p := hA0
  rw [Try.params3] at hA hval
  obtain ⟨v0, vs0, d0, ds0, p0, q0, hargs, rfl, rfl, h0, r0⟩ := trodAll_cons hA
  obtain ⟨v1, vs1, d1, ds1, p1, q1, rfl, rfl, rfl, h1, r1⟩ := trodAll_cons r0
  obtain ⟨rfl, rfl, rfl⟩ := trodAll_nil r1
  obtain rfl : args = #[v0, v1] := by cases args; simp_all
  obtain ⟨rfl, rfl⟩ := trodVars_none hV
  obtain ⟨a0, w0⟩ := open_Grammar (hval 0 25 v0 rfl rfl) h0
  obtain ⟨a1, w1⟩ := open_Grammar (hval 1 25 v1 rfl rfl) h1
  refine (fnExactSameGrammar_walk v0 a0 w0 v1 a1 w1 (w := W)).mono fun e W' ⟨he, hg⟩ => ?_
  subst he
  exact ⟨_, rfl, law_post Try.laidOut (by kernel_rfl) (by kernel_rfl) Try.underlying4 rfl rfl hW' hg⟩

theorem over : Rows.fnExactSameGrammarRow.holds Try.pinned (OpenSpec.ofChange Rows.fnExactSameGrammarSpec) :=
  OpenClaim.holds_of_wide 3 Try.f3 rfl rfl rfl rfl rfl rfl rfl ⟨rfl, rfl, rfl, rfl, rfl⟩ rfl rfl rfl rfl rfl (by kernel_rfl) Try.func3 (by kernel_rfl)
    (of_decide_eq_true (by kernel_rfl)) (by unfold Func.isWrapper; first | (rw [if_pos (by decide +kernel)]; kernel_rfl) | (rw [if_neg (by decide +kernel)]; exact ⟨rfl, rfl⟩))
    (fun os started H enc _ => lifted os started H enc)

theorem proved : Rows.FnExactSameGrammarSaid := over
end fnExactSameGrammar

end Go.Proofs.Ytjefmicahadijaa
