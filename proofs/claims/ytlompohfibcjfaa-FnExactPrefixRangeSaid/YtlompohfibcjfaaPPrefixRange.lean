/- FnExactPrefixRange returns true for all lexicons and strings: the program and the reference answer alike, and the argument is as it was. No condition. -/
import Derived.Test.YtlompohfibcjfaaF
import Derived.Test.YtlompohfibcjfaaLe
namespace Go.Proofs.Ytlompohfibcjfaa
open Go.RowKit
set_option maxHeartbeats 4000000 in
set_option maxRecDepth 20000 in
theorem fnExactPrefixRange_walk (w : World) (v0 : Value) (x0 : List ByteArray) (hv0 : LexR w v0 x0) (x1 : ByteArray) (h1 : x1.size ≤ maxLen) :
    Calls Try.prog 7 #[v0, .string x1] w fun e w' => e = .returned (.bool true) ∧ Below w.heap.size w w' := by
  have HA0 := Lib.hid hv0
  obtain ⟨aA0, cA0, rfl⟩ := hv0.shape
  have hlim1 : x1.size ≤ maxLen := h1
  unfold maxLen at hlim1
  clear h1
  by_cases h1 : x1.size ≤ 1048576
  rotate_left
  · go_enter Try.func7, Try.ntmps7
    go_wp2
    go_ret
    exact ⟨rfl, (Below.refl w.heap.size w).alloc (by simp) (.cells #[.slice aA0 x0.length cA0] 24)⟩
  clear hlim1
  go_enter Try.func7, Try.ntmps7
  go_wp2_with fail
  have HB0 := (Below.refl w.heap.size w).alloc (by simp) (.cells #[.slice aA0 x0.length cA0] 24)
  have hcA0_0_0 : (w.alloc (.cells #[.slice aA0 x0.length cA0] 24)).cell? ⟨w.heap.size, 0, none⟩ = some (.slice aA0 x0.length cA0) := cell_newi (w) #[.slice aA0 x0.length cA0] 24 0 (.slice aA0 x0.length cA0) rfl
  have hz0 : (w.alloc (.cells #[.slice aA0 x0.length cA0] 24)).heap.size = w.heap.size + 1 := by simp
  generalize w.alloc (.cells #[.slice aA0 x0.length cA0] 24) = w0 at HB0 hz0 hcA0_0_0 ⊢
  have HA0_0 := Lib.hid (HA0.out.below HB0)
  have HB0 := Lib.hid HB0
  clear HA0
  refine (szLexicon_any _ x0 _ 1048576 _ (show LexR _ _ x0 from HA0_0.out) (by omega) (by omega)).mono ?_
  rintro e w1 ⟨⟨hle, rfl⟩ | ⟨hlt, rfl⟩, hb⟩
  rotate_left
  · go_wp2
    go_ret
    exact ⟨rfl, HB0.out.trans (hb.mono HB0.out.size)⟩
  have hn0 := szNLexicon hle (by omega)
  have hle2 := hle
  have hlf0 : 1048576 - szLexR x0 ≤ 1048576 := by omega
  generalize 1048576 - szLexR x0 = left0 at hlf0 ⊢
  clear hle hle2
  have hz1 : w0.heap.size ≤ w1.heap.size := hb.size
  have HB1 := Lib.hid (HB0.out.trans (hb.mono HB0.out.size))
  have hcA0_0_1 := cell_below hb hcA0_0_0
  have HA0_1 := Lib.hid (HA0_0.out.below hb)
  clear hb HB0 hcA0_0_0 HA0_0
  go_wp2_with fail
  refine (toLexicon_any _ x0 _ (show LexR _ _ x0 from HA0_1.out) hn0).mono ?_
  rintro e w2 ⟨_, rfl, Tw0, hb⟩
  have hz2 : w1.heap.size ≤ w2.heap.size := hb.size
  have HB2 := Lib.hid (HB1.out.trans (hb.mono HB1.out.size))
  have hcA0_0_2 := cell_below hb hcA0_0_1
  have HA0_2 := Lib.hid (HA0_1.out.below hb)
  clear hb HB1 hcA0_0_1 HA0_1
  have Tw_2 := Lib.hid Tw0
  obtain ⟨aTw, cTw, rfl⟩ := Tw_2.out.shape
  go_wp2_with fail
  refine (specPrefixRange_any _ x0 x1 _ Tw_2.out.read h1 ).mono ?_
  rintro e w3 ⟨rfl, hb⟩
  clear Tw_2
  have hz3 : w2.heap.size ≤ w3.heap.size := hb.size
  have HB3 := Lib.hid (HB2.out.trans (hb.mono HB2.out.size))
  have hcA0_0_3 := cell_below hb hcA0_0_2
  have HA0_3 := Lib.hid (HA0_2.out.below hb)
  clear hb HB2 hcA0_0_2 HA0_2
  go_wp2_with fail
  refine (toLexicon_any _ x0 _ (show LexR _ _ x0 from HA0_3.out) hn0).mono ?_
  rintro e w4 ⟨_, rfl, X00, hb⟩
  have hz4 : w3.heap.size ≤ w4.heap.size := hb.size
  have HB4 := Lib.hid (HB3.out.trans (hb.mono HB3.out.size))
  have hcA0_0_4 := cell_below hb hcA0_0_3
  have HA0_4 := Lib.hid (HA0_3.out.below hb)
  clear hb HB3 hcA0_0_3 HA0_3
  have X0_4 := Lib.hid X00
  clear X00
  obtain ⟨aX0, cX0, rfl⟩ := X0_4.out.shape
  have hp_hcA0_0 := cell_alloc (.cells #[.slice aX0 x0.length cX0] 27) hcA0_0_4
  go_wp2_with fail
  clear hp_hcA0_0
  have hb := (Below.refl w4.heap.size w4).alloc (Nat.le_refl _) (.cells #[.slice aX0 x0.length cX0] 27)
  have hzb : (w4.alloc (.cells #[.slice aX0 x0.length cX0] 27)).heap.size = w4.heap.size + 1 := by simp
  have hxX0_0_5 := cell_newi w4 #[.slice aX0 x0.length cX0] 27 0 (.slice aX0 x0.length cX0) rfl
  generalize w4.alloc (.cells #[.slice aX0 x0.length cX0] 27) = w5 at hb hzb hxX0_0_5 ⊢
  have hz5 : w4.heap.size ≤ w5.heap.size := hb.size
  have HB5 := Lib.hid (HB4.out.trans (hb.mono HB4.out.size))
  have hcA0_0_5 := cell_below hb hcA0_0_4
  have HA0_5 := Lib.hid (HA0_4.out.below hb)
  have X0_5 := Lib.hid (X0_4.out.below hb)
  clear hb HB4 hcA0_0_4 HA0_4 X0_4
  refine (implPrefixRange_any _ x0 x1 _ X0_5.out.read h1 ).mono ?_
  rintro e w6 ⟨rfl, hb⟩
  have hz6 : w5.heap.size ≤ w6.heap.size := hb.size
  have HB6 := Lib.hid (HB5.out.trans (hb.mono HB5.out.size))
  have hcA0_0_6 := cell_below hb hcA0_0_5
  have hxX0_0_6 := cell_below hb hxX0_0_5
  have HA0_6 := Lib.hid (HA0_5.out.below hb)
  have X0_6 := Lib.hid (X0_5.out.below hb)
  clear hb HB5 hcA0_0_5 hxX0_0_5 HA0_5 X0_5
  go_wp2_with fail
  go_region_held3 (fun w' => w'.cell? ⟨w4.heap.size, 0, none⟩ = some (.slice aX0 x0.length cX0) ∧ w'.cell? ⟨w.heap.size, 0, none⟩ = some (.slice aA0 x0.length cA0) ∧ Below w6.heap.size w6 w')
    (first | exact ⟨hxX0_0_6, hcA0_0_6, (Below.refl _ _).drew⟩ | exact keepC hbk (by assumption) fun h => keepC hbk h fun h => keepE hbk h)
    (first
      | (go_at_call 14; refine (toLexicon_any _ x0 _ (show LexR _ _ x0 from ((fun (h : _ ∧ _ ∧ Below w6.heap.size w6 _) => HA0_6.out.below h.2.2) (by assumption))) hn0).mono ?_; rintro e wt ⟨_, rfl, ht, hbk⟩; obtain ⟨aT, cT, rfl⟩ := ht.shape)
      | (go_at_call 16; refine (eqLexicon_any _ _ x0 x0 _ (((fun (h : _ ∧ _ ∧ Below w6.heap.size w6 _) => X0_6.out.below h.2.2) (by assumption))).read ht.read).mono ?_; rintro e w7 ⟨rfl, hbk⟩))
  have hb := (by assumption : _ ∧ _ ∧ Below w6.heap.size w6 w7).2.2
  clear ht
  have hz7 : w6.heap.size ≤ w7.heap.size := hb.size
  have HB7 := Lib.hid (HB6.out.trans (hb.mono HB6.out.size))
  have hcA0_0_7 := cell_below hb hcA0_0_6
  have hxX0_0_7 := cell_below hb hxX0_0_6
  have HA0_7 := Lib.hid (HA0_6.out.below hb)
  have X0_7 := Lib.hid (X0_6.out.below hb)
  clear hb HB6 hcA0_0_6 hxX0_0_6 HA0_6 X0_6
  go_wp2
  go_ret
  exact ⟨rfl, HB7.out⟩

namespace fnExactPrefixRange
open Go.ChangeShapes Go.WideShapes Go.ChangeAt Go.RowKit
open Go.ChangeMaps (open_string shut_string)
set_option maxRecDepth 100000 in
theorem lifted (os : Os) (started : os.Started) (H : Type) (enc : TypeId × Value → H) :
    ReturnsInHanded {} Try.checked os 7 .any (Rows.fnExactPrefixRangeSpec.pre6 enc Try.prog Try.f7 Rows.fnExactPrefixRangeRow.domain false) (Rows.fnExactPrefixRangeSpec.post enc Try.prog Try.f7 false true false false) := by
  refine returnsInHanded_of_change (C := Try.checked) Try.own started (by kernel_rfl) Try.func7
    (ChangeSpec.witness6 (enc := enc) (C := Try.checked) false ⟨#[], #[.agg #[.slice none 0 0], .string ByteArray.empty], []⟩ 8 (by kernel_rfl) (by kernel_rfl) (by kernel_rfl) (by kernel_rfl)) ?_
  intro W base args ds gs before hval0 hW hcnd _
  have hval : ∀ (j : Nat) t v, Try.f7.params[j]? = some t → args[j]? = some v → Value.okWide Try.prog W .any base t v := hval0
  have hW' := hW
  obtain ⟨p, q, hA0, hV, rfl, hfz, hnd⟩ := hW
  have hA : DataW.TrodAll enc Try.prog W 0 (fun _ => true) true Try.f7.params.toList args.toList ds p := hA0
  rw [Try.params7] at hA hval
  obtain ⟨v0, vs0, d0, ds0, p0, q0, hargs, rfl, rfl, h0, r0⟩ := trodAll_cons hA
  obtain ⟨v1, vs1, d1, ds1, p1, q1, rfl, rfl, rfl, h1, r1⟩ := trodAll_cons r0
  obtain ⟨rfl, rfl, rfl⟩ := trodAll_nil r1
  obtain rfl : args = #[v0, v1] := by cases args; simp_all
  obtain ⟨rfl, rfl⟩ := trodVars_none hV
  obtain ⟨a0, w0⟩ := open_Lexicon (hval 0 24 v0 rfl rfl) h0
  obtain ⟨a1, rfl, rfl, rfl, w1⟩ := open_string Try.underlying9 (hval 1 9 v1 rfl rfl) h1
  refine (fnExactPrefixRange_walk v0 a0 w0 a1 w1 (w := W)).mono fun e W' ⟨he, hg⟩ => ?_
  subst he
  exact ⟨_, rfl, law_post Try.laidOut (by kernel_rfl) (by kernel_rfl) Try.underlying4 rfl rfl hW' hg⟩

theorem over : Rows.fnExactPrefixRangeRow.holds Try.pinned (OpenSpec.ofChange Rows.fnExactPrefixRangeSpec) :=
  OpenClaim.holds_of_wide 7 Try.f7 rfl rfl rfl rfl rfl rfl rfl ⟨rfl, rfl, rfl, rfl, rfl⟩ rfl rfl rfl rfl rfl (by kernel_rfl) Try.func7 (by kernel_rfl)
    (of_decide_eq_true (by kernel_rfl)) (by unfold Func.isWrapper; first | (rw [if_pos (by decide +kernel)]; kernel_rfl) | (rw [if_neg (by decide +kernel)]; exact ⟨rfl, rfl⟩))
    (fun os started H enc _ => lifted os started H enc)

theorem proved : Rows.FnExactPrefixRangeSaid := over
end fnExactPrefixRange

end Go.Proofs.Ytlompohfibcjfaa
