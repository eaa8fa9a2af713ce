/- FnExactMatchesAffix returns true for all affixes and strings: the program and the reference answer alike; and its tied card. No condition but what the row lists. -/
import Derived.Test.YtjefmicahadijaaDoorCards
import Derived.Test.YtjefmicahadijaaDoorTie
import Derived.Test.YtjefmicahadijaaDoorFd
import Derived.Test.YtjefmicahadijaaDoorGc
namespace Go.Proofs.YtjefmicahadijaaDoor
open Go.RowKit
set_option maxHeartbeats 4000000 in
set_option maxRecDepth 20000 in
theorem fnExactMatchesAffix_walk (w : World) (v0 : Value) (x0 : AffD) (hv0 : AffR w v0 x0) (x1 : ByteArray) (h1 : x1.size ≤ maxLen) (hML : MaxL w) :
    Calls Tryd.prog 4 #[v0, .string x1] w fun e w' => e = .returned (.bool true) ∧ Below w.heap.size w w' := by
  have HML := Lib.hid hML
  clear hML
  have HA0 := Lib.hid hv0
  obtain rfl := hv0.shape
  have hlim1 : x1.size ≤ maxLen := h1
  unfold maxLen at hlim1
  clear h1
  by_cases h1 : x1.size ≤ 1048576
  rotate_left
  · go_enter Tryd.func4, Tryd.ntmps4
    go_wp2
    go_ret
    exact ⟨rfl, (Below.refl w.heap.size w).alloc (by simp) (.cells #[.string x0.name, .bool x0.front, .string x0.cond, .string x0.strip, .string x0.add] 23)⟩
  clear hlim1
  go_enter Tryd.func4, Tryd.ntmps4
  go_wp2_with fail
  have HB0 := (Below.refl w.heap.size w).alloc (by simp) (.cells #[.string x0.name, .bool x0.front, .string x0.cond, .string x0.strip, .string x0.add] 23)
  have hcA0_0_0 : (w.alloc (.cells #[.string x0.name, .bool x0.front, .string x0.cond, .string x0.strip, .string x0.add] 23)).cell? ⟨w.heap.size, 0, none⟩ = some (.string x0.name) := cell_newi (w) #[.string x0.name, .bool x0.front, .string x0.cond, .string x0.strip, .string x0.add] 23 0 (.string x0.name) rfl
  have hcA0_1_0 : (w.alloc (.cells #[.string x0.name, .bool x0.front, .string x0.cond, .string x0.strip, .string x0.add] 23)).cell? ⟨w.heap.size, 1, none⟩ = some (.bool x0.front) := cell_newi (w) #[.string x0.name, .bool x0.front, .string x0.cond, .string x0.strip, .string x0.add] 23 1 (.bool x0.front) rfl
  have hcA0_2_0 : (w.alloc (.cells #[.string x0.name, .bool x0.front, .string x0.cond, .string x0.strip, .string x0.add] 23)).cell? ⟨w.heap.size, 2, none⟩ = some (.string x0.cond) := cell_newi (w) #[.string x0.name, .bool x0.front, .string x0.cond, .string x0.strip, .string x0.add] 23 2 (.string x0.cond) rfl
  have hcA0_3_0 : (w.alloc (.cells #[.string x0.name, .bool x0.front, .string x0.cond, .string x0.strip, .string x0.add] 23)).cell? ⟨w.heap.size, 3, none⟩ = some (.string x0.strip) := cell_newi (w) #[.string x0.name, .bool x0.front, .string x0.cond, .string x0.strip, .string x0.add] 23 3 (.string x0.strip) rfl
  have hcA0_4_0 : (w.alloc (.cells #[.string x0.name, .bool x0.front, .string x0.cond, .string x0.strip, .string x0.add] 23)).cell? ⟨w.heap.size, 4, none⟩ = some (.string x0.add) := cell_newi (w) #[.string x0.name, .bool x0.front, .string x0.cond, .string x0.strip, .string x0.add] 23 4 (.string x0.add) rfl
  have hz0 : (w.alloc (.cells #[.string x0.name, .bool x0.front, .string x0.cond, .string x0.strip, .string x0.add] 23)).heap.size = w.heap.size + 1 := by simp
  generalize w.alloc (.cells #[.string x0.name, .bool x0.front, .string x0.cond, .string x0.strip, .string x0.add] 23) = w0 at HB0 hz0 hcA0_0_0 hcA0_1_0 hcA0_2_0 hcA0_3_0 hcA0_4_0 ⊢
  have HA0_0 := Lib.hid (HA0.out.below HB0)
  have HB0 := Lib.hid HB0
  clear HA0
  refine (szAffix_any _ x0 _ 1048576 _ (show AffR _ _ x0 from HA0_0.out) (by omega) (by omega)).mono ?_
  rintro e w1 ⟨⟨hle, rfl⟩ | ⟨hlt, rfl⟩, hb⟩
  rotate_left
  · go_wp2
    go_ret
    exact ⟨rfl, HB0.out.trans (hb.mono HB0.out.size)⟩
  have hn0 := szNAffix hle (by omega)
  have hle2 := hle
  have hlf0 : 1048576 - szAffR x0 ≤ 1048576 := by omega
  generalize 1048576 - szAffR x0 = left0 at hlf0 ⊢
  clear hle hle2
  have hz1 : w0.heap.size ≤ w1.heap.size := hb.size
  have HB1 := Lib.hid (HB0.out.trans (hb.mono HB0.out.size))
  have hcA0_0_1 := cell_below hb hcA0_0_0
  have hcA0_1_1 := cell_below hb hcA0_1_0
  have hcA0_2_1 := cell_below hb hcA0_2_0
  have hcA0_3_1 := cell_below hb hcA0_3_0
  have hcA0_4_1 := cell_below hb hcA0_4_0
  have HA0_1 := Lib.hid (HA0_0.out.below hb)
  clear hb HB0 hcA0_0_0 hcA0_1_0 hcA0_2_0 hcA0_3_0 hcA0_4_0 HA0_0
  go_wp2_with fail
  refine (toAffix_any _ x0 _ (show AffR _ _ x0 from HA0_1.out) hn0).mono ?_
  rintro e w2 ⟨_, rfl, Tw0, hb⟩
  have hz2 : w1.heap.size ≤ w2.heap.size := hb.size
  have HB2 := Lib.hid (HB1.out.trans (hb.mono HB1.out.size))
  have hcA0_0_2 := cell_below hb hcA0_0_1
  have hcA0_1_2 := cell_below hb hcA0_1_1
  have hcA0_2_2 := cell_below hb hcA0_2_1
  have hcA0_3_2 := cell_below hb hcA0_3_1
  have hcA0_4_2 := cell_below hb hcA0_4_1
  have HA0_2 := Lib.hid (HA0_1.out.below hb)
  clear hb HB1 hcA0_0_1 hcA0_1_1 hcA0_2_1 hcA0_3_1 hcA0_4_1 HA0_1
  have Tw_2 := Lib.hid Tw0
  obtain rfl := Tw_2.out.shape
  go_wp2_with fail
  refine (specMatchesAffix_any _ x0 x1 _ Tw_2.out.read h1 (HML.out.below HB2.out)).mono ?_
  rintro e w3 ⟨rfl, hb⟩
  clear Tw_2
  have hz3 : w2.heap.size ≤ w3.heap.size := hb.size
  have HB3 := Lib.hid (HB2.out.trans (hb.mono HB2.out.size))
  have hcA0_0_3 := cell_below hb hcA0_0_2
  have hcA0_1_3 := cell_below hb hcA0_1_2
  have hcA0_2_3 := cell_below hb hcA0_2_2
  have hcA0_3_3 := cell_below hb hcA0_3_2
  have hcA0_4_3 := cell_below hb hcA0_4_2
  have HA0_3 := Lib.hid (HA0_2.out.below hb)
  clear hb HB2 hcA0_0_2 hcA0_1_2 hcA0_2_2 hcA0_3_2 hcA0_4_2 HA0_2
  go_wp2_with fail
  refine (toAffix_any _ x0 _ (show AffR _ _ x0 from HA0_3.out) hn0).mono ?_
  rintro e w4 ⟨_, rfl, Tg0, hb⟩
  have hz4 : w3.heap.size ≤ w4.heap.size := hb.size
  have HB4 := Lib.hid (HB3.out.trans (hb.mono HB3.out.size))
  have hcA0_0_4 := cell_below hb hcA0_0_3
  have hcA0_1_4 := cell_below hb hcA0_1_3
  have hcA0_2_4 := cell_below hb hcA0_2_3
  have hcA0_3_4 := cell_below hb hcA0_3_3
  have hcA0_4_4 := cell_below hb hcA0_4_3
  have HA0_4 := Lib.hid (HA0_3.out.below hb)
  clear hb HB3 hcA0_0_3 hcA0_1_3 hcA0_2_3 hcA0_3_3 hcA0_4_3 HA0_3
  have Tg_4 := Lib.hid Tg0
  obtain rfl := Tg_4.out.shape
  go_wp2_with fail
  refine (implMatchesAffix_any _ x0 x1 _ Tg_4.out.read h1 (HML.out.below HB4.out)).mono ?_
  rintro e w5 ⟨rfl, hb⟩
  clear Tg_4
  have hz5 : w4.heap.size ≤ w5.heap.size := hb.size
  have HB5 := Lib.hid (HB4.out.trans (hb.mono HB4.out.size))
  have hcA0_0_5 := cell_below hb hcA0_0_4
  have hcA0_1_5 := cell_below hb hcA0_1_4
  have hcA0_2_5 := cell_below hb hcA0_2_4
  have hcA0_3_5 := cell_below hb hcA0_3_4
  have hcA0_4_5 := cell_below hb hcA0_4_4
  have HA0_5 := Lib.hid (HA0_4.out.below hb)
  clear hb HB4 hcA0_0_4 hcA0_1_4 hcA0_2_4 hcA0_3_4 hcA0_4_4 HA0_4
  go_wp2
  go_ret
  exact ⟨rfl, HB5.out⟩

namespace fnExactMatchesAffix
open Go.ChangeShapes Go.WideShapes Go.ChangeAt Go.RowKit
open Go.ChangeMaps (open_string shut_string)
set_option maxRecDepth 100000 in
theorem lifted (os : Os) (started : os.Started) (H : Type) (enc : TypeId × Value → H) :
      ReturnsInHanded {} Tryd.checked os 4 .any (fun w args => (Rows.fnExactMatchesAffixSpec.pre enc Tryd.prog Tryd.f4 Rows.fnExactMatchesAffixRow.domain false w args ∧ laidMetH Tryd.prog Rows.fnExactMatchesAffixRow.laid w) ∧ sizedMet enc Tryd.prog Tryd.f4 (OpenSpec.ofChange Rows.fnExactMatchesAffixSpec) false w args) (Rows.fnExactMatchesAffixSpec.post enc Tryd.prog Tryd.f4 false true false false) := by
  refine handed_and_shaped (C := Tryd.checked) (X := fun w _ => laidMetH Tryd.prog Rows.fnExactMatchesAffixRow.laid w) (fun _ _ _ hh h => h.of_heap hh) Tryd.own started (by kernel_rfl) Tryd.func4
    (ChangeSpec.witness_shaped (enc := enc) (C := Tryd.checked) (os := os) (X := fun w _ => laidMetH Tryd.prog Rows.fnExactMatchesAffixRow.laid w) false (World.laidAll Tryd.prog os Rows.fnExactMatchesAffixRow.laid) #[.agg #[.string ByteArray.empty, .bool false, .string ByteArray.empty, .string ByteArray.empty, .string ByteArray.empty], .string ByteArray.empty] 8 (World.laidAll_os _ _ _)
      (World.shaped_of_ZipB (by kernel_rfl) (by kernel_rfl)) (by kernel_rfl) (by kernel_rfl) (by kernel_rfl)
      (by rw [MakeChecks.laidMetH_plain _ _ _ (by kernel_rfl)]; exact laidMet_laidAll _ (by kernel_rfl) (by kernel_rfl))) ?_
  intro W base args ds gs before hval0 hW hsh _
  have hval : ∀ (j : Nat) t v, Tryd.f4.params[j]? = some t → args[j]? = some v → Value.okWide Tryd.prog W .any base t v := hval0
  have hW' := hW
  obtain ⟨p, q, hA0, hV, rfl, hfz, hnd⟩ := hW
  have hA : DataW.TrodAll enc Tryd.prog W 0 (fun _ => true) true Tryd.f4.params.toList args.toList ds p := hA0
  rw [Tryd.params4] at hA hval
  obtain ⟨v0, vs0, d0, ds0, p0, q0, hargs, rfl, rfl, h0, r0⟩ := trodAll_cons hA
  obtain ⟨v1, vs1, d1, ds1, p1, q1, rfl, rfl, rfl, h1, r1⟩ := trodAll_cons r0
  obtain ⟨rfl, rfl, rfl⟩ := trodAll_nil r1
  obtain rfl : args = #[v0, v1] := by cases args; simp_all
  obtain ⟨rfl, rfl⟩ := trodVars_none hV
  obtain ⟨a0, w0⟩ := open_Affix (hval 0 23 v0 rfl rfl) h0
  obtain ⟨a1, rfl, rfl, rfl, w1⟩ := open_string Tryd.underlying9 (hval 1 9 v1 rfl rfl) h1
  refine (fnExactMatchesAffix_walk v0 a0 w0 a1 w1 (w := W) (hML := MaxL.shaped hsh)).mono fun e W' ⟨he, hg⟩ => ?_
  subst he
  exact ⟨_, rfl, law_post Tryd.laidOut (by kernel_rfl) (by kernel_rfl) Tryd.underlying4 rfl rfl hW' hg⟩

theorem over : Rows.fnExactMatchesAffixRow.holds Tryd.pinned (OpenSpec.ofChange Rows.fnExactMatchesAffixSpec) :=
  OpenClaim.holds_of_wide 4 Tryd.f4 rfl rfl rfl rfl rfl rfl rfl ⟨rfl, rfl, rfl, rfl, rfl⟩ rfl rfl rfl rfl rfl (by kernel_rfl) Tryd.func4 (by kernel_rfl)
    (of_decide_eq_true (by kernel_rfl)) (by unfold Func.isWrapper; first | (rw [if_pos (by decide +kernel)]; kernel_rfl) | (rw [if_neg (by decide +kernel)]; exact ⟨rfl, rfl⟩))
    (fun os started H enc _ => lifted os started H enc)

theorem proved : Rows.FnExactMatchesAffixCardSaid :=
  Claim7.holds_tied_plain_at .later [] [.data, .pinned] true (true, "83fdfcac07b4608faad427d63bdcaee19084c6247cd7546447dc9fe137e24c17") false over (fun _ h => by cases h) (by kernel_rfl) (fun _ h => by cases h) fnExactMatchesAffix_row_tie rfl ⟨rfl, rfl⟩ (by kernel_rfl) rfl
    (fun f fn hf hfn => by
      obtain rfl : f = 4 := Option.some.inj ((show Tryd.prog.funcNamed "loop.example/g00911/laws.FnExactMatchesAffix" = some 4 by kernel_rfl).symm.trans hf) |>.symm
      obtain rfl : fn = Tryd.f4 := (Option.some.inj (Tryd.func4.symm.trans hfn)).symm
      exact ⟨by kernel_rfl, fun j t ht => by
        rw [Tryd.params4] at ht
        have hm : t ∈ [23, 9] := by simpa using Array.mem_of_getElem? ht
        have hall : ([23, 9].all fun u => !Tryd.prog.wantsStandIn u) = true := by kernel_rfl
        exact (show Tryd.prog.wantsStandIn t = false by simpa using List.all_eq_true.1 hall t hm)⟩)
    (by kernel_rfl)
end fnExactMatchesAffix

end Go.Proofs.YtjefmicahadijaaDoor
