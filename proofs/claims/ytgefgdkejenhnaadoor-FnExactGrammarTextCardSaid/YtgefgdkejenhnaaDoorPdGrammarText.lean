/- FnExactGrammarText returns true for all grammars: the program and the reference answer alike, and the argument is as it was; and its tied card. No condition but what the row lists. -/
import Derived.Test.YtgefgdkejenhnaaDoorCards
import Derived.Test.YtgefgdkejenhnaaDoorTie
import Derived.Test.YtgefgdkejenhnaaDoorFd
import Derived.Test.YtgefgdkejenhnaaDoorGxI
import Derived.Test.YtgefgdkejenhnaaDoorGv
namespace Go.Proofs.YtgefgdkejenhnaaDoor
open Go.RowKit
set_option maxHeartbeats 4000000 in
set_option maxRecDepth 20000 in
theorem fnExactGrammarText_walk (w : World) (v0 : Value) (x0 : GraD) (hv0 : GraR w v0 x0) (hML : MaxL w) :
    Calls Tryd.prog 6 #[v0] w fun e w' => e = .returned (.bool true) ∧ Below w.heap.size w w' := by
  have HML := Lib.hid hML
  clear hML
  have HA0 := Lib.hid hv0
  obtain ⟨aA0, cA0, bA0, dA0, rfl⟩ := hv0.shape
  go_enter Tryd.func6, Tryd.ntmps6
  go_wp2_with fail
  have HB0 := (Below.refl w.heap.size w).alloc (by simp) (.cells #[.slice aA0 x0.affixes.length cA0, .slice bA0 x0.stems.length dA0] 25)
  have hcA0_0_0 : (w.alloc (.cells #[.slice aA0 x0.affixes.length cA0, .slice bA0 x0.stems.length dA0] 25)).cell? ⟨w.heap.size, 0, none⟩ = some (.slice aA0 x0.affixes.length cA0) := cell_newi (w) #[.slice aA0 x0.affixes.length cA0, .slice bA0 x0.stems.length dA0] 25 0 (.slice aA0 x0.affixes.length cA0) rfl
  have hcA0_1_0 : (w.alloc (.cells #[.slice aA0 x0.affixes.length cA0, .slice bA0 x0.stems.length dA0] 25)).cell? ⟨w.heap.size, 1, none⟩ = some (.slice bA0 x0.stems.length dA0) := cell_newi (w) #[.slice aA0 x0.affixes.length cA0, .slice bA0 x0.stems.length dA0] 25 1 (.slice bA0 x0.stems.length dA0) rfl
  have hz0 : (w.alloc (.cells #[.slice aA0 x0.affixes.length cA0, .slice bA0 x0.stems.length dA0] 25)).heap.size = w.heap.size + 1 := by simp
  generalize w.alloc (.cells #[.slice aA0 x0.affixes.length cA0, .slice bA0 x0.stems.length dA0] 25) = w0 at HB0 hz0 hcA0_0_0 hcA0_1_0 ⊢
  have HA0_0 := Lib.hid (HA0.out.below HB0)
  have HB0 := Lib.hid HB0
  clear HA0
  refine (szGrammar_any _ x0 _ 1048576 _ (show GraR _ _ x0 from HA0_0.out) (by omega) (by omega)).mono ?_
  rintro e w1 ⟨⟨hle, rfl⟩ | ⟨hlt, rfl⟩, hb⟩
  rotate_left
  · go_wp2
    go_ret
    exact ⟨rfl, HB0.out.trans (hb.mono HB0.out.size)⟩
  have hn0 := szNGrammar hle (by omega)
  have hle2 := hle
  have hlf0 : 1048576 - szGraR x0 ≤ 1048576 := by omega
  generalize 1048576 - szGraR x0 = left0 at hlf0 ⊢
  clear hle hle2
  have hz1 : w0.heap.size ≤ w1.heap.size := hb.size
  have HB1 := Lib.hid (HB0.out.trans (hb.mono HB0.out.size))
  have hcA0_0_1 := cell_below hb hcA0_0_0
  have hcA0_1_1 := cell_below hb hcA0_1_0
  have HA0_1 := Lib.hid (HA0_0.out.below hb)
  clear hb HB0 hcA0_0_0 hcA0_1_0 HA0_0
  go_wp2_with fail
  refine (toGrammar_any _ x0 _ (show GraR _ _ x0 from HA0_1.out) hn0).mono ?_
  rintro e w2 ⟨_, rfl, Tw0, hb⟩
  have hz2 : w1.heap.size ≤ w2.heap.size := hb.size
  have HB2 := Lib.hid (HB1.out.trans (hb.mono HB1.out.size))
  have hcA0_0_2 := cell_below hb hcA0_0_1
  have hcA0_1_2 := cell_below hb hcA0_1_1
  have HA0_2 := Lib.hid (HA0_1.out.below hb)
  clear hb HB1 hcA0_0_1 hcA0_1_1 HA0_1
  have Tw_2 := Lib.hid Tw0
  obtain ⟨aTw, cTw, bTw, dTw, rfl⟩ := Tw_2.out.shape
  go_wp2_with fail
  refine (specGrammarText_any _ x0 _ Tw_2.out.read (HML.out.below HB2.out)).mono ?_
  rintro e w3 ⟨rfl, hb⟩
  clear Tw_2
  have hz3 : w2.heap.size ≤ w3.heap.size := hb.size
  have HB3 := Lib.hid (HB2.out.trans (hb.mono HB2.out.size))
  have hcA0_0_3 := cell_below hb hcA0_0_2
  have hcA0_1_3 := cell_below hb hcA0_1_2
  have HA0_3 := Lib.hid (HA0_2.out.below hb)
  clear hb HB2 hcA0_0_2 hcA0_1_2 HA0_2
  go_wp2_with fail
  refine (toGrammar_any _ x0 _ (show GraR _ _ x0 from HA0_3.out) hn0).mono ?_
  rintro e w4 ⟨_, rfl, X00, hb⟩
  have hz4 : w3.heap.size ≤ w4.heap.size := hb.size
  have HB4 := Lib.hid (HB3.out.trans (hb.mono HB3.out.size))
  have hcA0_0_4 := cell_below hb hcA0_0_3
  have hcA0_1_4 := cell_below hb hcA0_1_3
  have HA0_4 := Lib.hid (HA0_3.out.below hb)
  clear hb HB3 hcA0_0_3 hcA0_1_3 HA0_3
  have X0_4 := Lib.hid X00
  clear X00
  obtain ⟨aX0, cX0, bX0, dX0, rfl⟩ := X0_4.out.shape
  have hp_hcA0_0 := cell_alloc (.cells #[.slice aX0 x0.affixes.length cX0, .slice bX0 x0.stems.length dX0] 31) hcA0_0_4
  have hp_hcA0_1 := cell_alloc (.cells #[.slice aX0 x0.affixes.length cX0, .slice bX0 x0.stems.length dX0] 31) hcA0_1_4
  go_wp2_with fail
  clear hp_hcA0_0 hp_hcA0_1
  have hb := (Below.refl w4.heap.size w4).alloc (Nat.le_refl _) (.cells #[.slice aX0 x0.affixes.length cX0, .slice bX0 x0.stems.length dX0] 31)
  have hzb : (w4.alloc (.cells #[.slice aX0 x0.affixes.length cX0, .slice bX0 x0.stems.length dX0] 31)).heap.size = w4.heap.size + 1 := by simp
  have hxX0_0_5 := cell_newi w4 #[.slice aX0 x0.affixes.length cX0, .slice bX0 x0.stems.length dX0] 31 0 (.slice aX0 x0.affixes.length cX0) rfl
  have hxX0_1_5 := cell_newi w4 #[.slice aX0 x0.affixes.length cX0, .slice bX0 x0.stems.length dX0] 31 1 (.slice bX0 x0.stems.length dX0) rfl
  generalize w4.alloc (.cells #[.slice aX0 x0.affixes.length cX0, .slice bX0 x0.stems.length dX0] 31) = w5 at hb hzb hxX0_0_5 hxX0_1_5 ⊢
  have hz5 : w4.heap.size ≤ w5.heap.size := hb.size
  have HB5 := Lib.hid (HB4.out.trans (hb.mono HB4.out.size))
  have hcA0_0_5 := cell_below hb hcA0_0_4
  have hcA0_1_5 := cell_below hb hcA0_1_4
  have HA0_5 := Lib.hid (HA0_4.out.below hb)
  have X0_5 := Lib.hid (X0_4.out.below hb)
  clear hb HB4 hcA0_0_4 hcA0_1_4 HA0_4 X0_4
  refine (implGrammarText_any _ x0 _ X0_5.out.read (HML.out.below HB5.out)).mono ?_
  rintro e w6 ⟨rfl, hb⟩
  have hz6 : w5.heap.size ≤ w6.heap.size := hb.size
  have HB6 := Lib.hid (HB5.out.trans (hb.mono HB5.out.size))
  have hcA0_0_6 := cell_below hb hcA0_0_5
  have hcA0_1_6 := cell_below hb hcA0_1_5
  have hxX0_0_6 := cell_below hb hxX0_0_5
  have hxX0_1_6 := cell_below hb hxX0_1_5
  have HA0_6 := Lib.hid (HA0_5.out.below hb)
  have X0_6 := Lib.hid (X0_5.out.below hb)
  clear hb HB5 hcA0_0_5 hcA0_1_5 hxX0_0_5 hxX0_1_5 HA0_5 X0_5
  go_wp2_with fail
  go_region_held3 (fun w' => w'.cell? ⟨w4.heap.size, 0, none⟩ = some (.slice aX0 x0.affixes.length cX0) ∧ w'.cell? ⟨w4.heap.size, 1, none⟩ = some (.slice bX0 x0.stems.length dX0) ∧ w'.cell? ⟨w.heap.size, 0, none⟩ = some (.slice aA0 x0.affixes.length cA0) ∧ w'.cell? ⟨w.heap.size, 1, none⟩ = some (.slice bA0 x0.stems.length dA0) ∧ Below w6.heap.size w6 w')
    (first | exact ⟨hxX0_0_6, hxX0_1_6, hcA0_0_6, hcA0_1_6, (Below.refl _ _).drew⟩ | exact keepC hbk (by assumption) fun h => keepC hbk h fun h => keepC hbk h fun h => keepC hbk h fun h => keepE hbk h)
    (first
      | (go_at_call 10; refine (toGrammar_any _ x0 _ (show GraR _ _ x0 from ((fun (h : _ ∧ _ ∧ _ ∧ _ ∧ Below w6.heap.size w6 _) => HA0_6.out.below h.2.2.2.2) (by assumption))) hn0).mono ?_; rintro e wt ⟨_, rfl, ht, hbk⟩; obtain ⟨aT, cT, bT, dT, rfl⟩ := ht.shape)
      | (go_at_call 12; refine (eqGrammar_any _ _ x0 x0 _ (((fun (h : _ ∧ _ ∧ _ ∧ _ ∧ Below w6.heap.size w6 _) => X0_6.out.below h.2.2.2.2) (by assumption))).read ht.read).mono ?_; rintro e w7 ⟨rfl, hbk⟩))
  have hb := (by assumption : _ ∧ _ ∧ _ ∧ _ ∧ Below w6.heap.size w6 w7).2.2.2.2
  clear ht
  have hz7 : w6.heap.size ≤ w7.heap.size := hb.size
  have HB7 := Lib.hid (HB6.out.trans (hb.mono HB6.out.size))
  have hcA0_0_7 := cell_below hb hcA0_0_6
  have hcA0_1_7 := cell_below hb hcA0_1_6
  have hxX0_0_7 := cell_below hb hxX0_0_6
  have hxX0_1_7 := cell_below hb hxX0_1_6
  have HA0_7 := Lib.hid (HA0_6.out.below hb)
  have X0_7 := Lib.hid (X0_6.out.below hb)
  clear hb HB6 hcA0_0_6 hcA0_1_6 hxX0_0_6 hxX0_1_6 HA0_6 X0_6
  go_wp2
  go_ret
  exact ⟨rfl, HB7.out⟩

namespace fnExactGrammarText
open Go.ChangeShapes Go.WideShapes Go.ChangeAt Go.RowKit
open Go.ChangeMaps (open_string shut_string)
set_option maxRecDepth 100000 in
theorem lifted (os : Os) (started : os.Started) (H : Type) (enc : TypeId × Value → H) :
      ReturnsInHanded {} Tryd.checked os 6 .any (fun w args => (Rows.fnExactGrammarTextSpec.pre enc Tryd.prog Tryd.f6 Rows.fnExactGrammarTextRow.domain false w args ∧ laidMetH Tryd.prog Rows.fnExactGrammarTextRow.laid w) ∧ sizedMet enc Tryd.prog Tryd.f6 (OpenSpec.ofChange Rows.fnExactGrammarTextSpec) false w args) (Rows.fnExactGrammarTextSpec.post enc Tryd.prog Tryd.f6 false true false false) := by
  refine handed_and_shaped (C := Tryd.checked) (X := fun w _ => laidMetH Tryd.prog Rows.fnExactGrammarTextRow.laid w) (fun _ _ _ hh h => h.of_heap hh) Tryd.own started (by kernel_rfl) Tryd.func6
    (ChangeSpec.witness_shaped (enc := enc) (C := Tryd.checked) (os := os) (X := fun w _ => laidMetH Tryd.prog Rows.fnExactGrammarTextRow.laid w) false (World.laidAll Tryd.prog os Rows.fnExactGrammarTextRow.laid) #[.agg #[.slice none 0 0, .slice none 0 0]] 8 (World.laidAll_os _ _ _)
      (World.shaped_of_ZipB (by kernel_rfl) (by kernel_rfl)) (by kernel_rfl) (by kernel_rfl) (by kernel_rfl)
      (by rw [MakeChecks.laidMetH_plain _ _ _ (by kernel_rfl)]; exact laidMet_laidAll _ (by kernel_rfl) (by kernel_rfl))) ?_
  intro W base args ds gs before hval0 hW hsh _
  have hval : ∀ (j : Nat) t v, Tryd.f6.params[j]? = some t → args[j]? = some v → Value.okWide Tryd.prog W .any base t v := hval0
  have hW' := hW
  obtain ⟨p, q, hA0, hV, rfl, hfz, hnd⟩ := hW
  have hA : DataW.TrodAll enc Tryd.prog W 0 (fun _ => true) true Tryd.f6.params.toList args.toList ds p := hA0
  rw [Tryd.params6] at hA hval
  obtain ⟨v0, vs0, d0, ds0, p0, q0, hargs, rfl, rfl, h0, r0⟩ := trodAll_cons hA
  obtain ⟨rfl, rfl, rfl⟩ := trodAll_nil r0
  obtain rfl : args = #[v0] := by cases args; simp_all
  obtain ⟨rfl, rfl⟩ := trodVars_none hV
  obtain ⟨a0, w0⟩ := open_Grammar (hval 0 25 v0 rfl rfl) h0
  refine (fnExactGrammarText_walk v0 a0 w0 (w := W) (hML := MaxL.shaped hsh)).mono fun e W' ⟨he, hg⟩ => ?_
  subst he
  exact ⟨_, rfl, law_post Tryd.laidOut (by kernel_rfl) (by kernel_rfl) Tryd.underlying4 rfl rfl hW' hg⟩

theorem over : Rows.fnExactGrammarTextRow.holds Tryd.pinned (OpenSpec.ofChange Rows.fnExactGrammarTextSpec) :=
  OpenClaim.holds_of_wide 6 Tryd.f6 rfl rfl rfl rfl rfl rfl rfl ⟨rfl, rfl, rfl, rfl, rfl⟩ rfl rfl rfl rfl rfl (by kernel_rfl) Tryd.func6 (by kernel_rfl)
    (of_decide_eq_true (by kernel_rfl)) (by unfold Func.isWrapper; first | (rw [if_pos (by decide +kernel)]; kernel_rfl) | (rw [if_neg (by decide +kernel)]; exact ⟨rfl, rfl⟩))
    (fun os started H enc _ => lifted os started H enc)

theorem proved : Rows.FnExactGrammarTextCardSaid :=
  Claim7.holds_tied_plain_at .later [] [.data, .pinned] true (true, "af829414c15e4f64bc174ba6f0658db67e948a055b0501301af12220bb6dee4b") false over (fun _ h => by cases h) (by kernel_rfl) (fun _ h => by cases h) fnExactGrammarText_row_tie rfl ⟨rfl, rfl⟩ (by kernel_rfl) rfl
    (fun f fn hf hfn => by
      obtain rfl : f = 6 := Option.some.inj ((show Tryd.prog.funcNamed "loop.example/g00911/laws.FnExactGrammarText" = some 6 by kernel_rfl).symm.trans hf) |>.symm
      obtain rfl : fn = Tryd.f6 := (Option.some.inj (Tryd.func6.symm.trans hfn)).symm
      exact ⟨by kernel_rfl, fun j t ht => by
        rw [Tryd.params6] at ht
        have hm : t ∈ [25] := by simpa using Array.mem_of_getElem? ht
        have hall : ([25].all fun u => !Tryd.prog.wantsStandIn u) = true := by kernel_rfl
        exact (show Tryd.prog.wantsStandIn t = false by simpa using List.all_eq_true.1 hall t hm)⟩)
    (by kernel_rfl)
end fnExactGrammarText

end Go.Proofs.YtgefgdkejenhnaaDoor
