/- FnAffixes returns true for all bytes: what an affix makes of a word can be undone, and what is undone can be made again; the program and the reference answer alike; and its tied card. No condition but what the row lists. -/
import Derived.Test.YtjefmicahadijaaDoorCards
import Derived.Test.YtjefmicahadijaaDoorTie
import Derived.Test.YtjefmicahadijaaDoorFd
import Derived.Test.YtjefmicahadijaaDoorAfE
namespace Go.Proofs.YtjefmicahadijaaDoor
open Go.RowKit
section
attribute [local irreducible] Calls
set_option maxHeartbeats 16000000 in
set_option maxRecDepth 20000 in
theorem fnAffixes_walk (w : World) (v0 : Value) (x0 : List UInt8) (hv0 : BytesR w v0 x0) (hML : MaxL w) :
    Calls Tryd.prog 7 #[v0] w fun e w' => e = .returned (.bool true) ∧ Below w.heap.size w w' := by
  have HV := Lib.hid hv0
  have HML := Lib.hid hML
  obtain ⟨pa, pc, rfl, hcl, hcm⟩ := hv0.shape
  clear hv0 hML
  by_cases hlong : 4096 < x0.length
  · go_enter Tryd.func7, Tryd.ntmps7
    go_wp2_with fail
    refine (f6big_any _ _ _ _ (by omega)).mono ?_
    rw [decide_eq_true hlong]
    rintro e wz ⟨rfl, hwz⟩
    subst hwz
    go_wp2
    go_ret
    exact ⟨rfl, Below.refl _ _⟩
  · go_enter Tryd.func7, Tryd.ntmps7
    go_wp2_with fail
    refine (f6big_any _ _ _ _ (by omega)).mono ?_
    rw [decide_eq_false hlong]
    rintro e wz ⟨rfl, hwz⟩
    subst hwz
    go_wp2_with fail
    refine (drawUndo_any _ x0 _ HV.out (by omega)).mono ?_
    rintro e w0 ⟨x, s, rfl, hx, hsz, hb0⟩
    have HX := Lib.hid hx
    have hHB1 := hb0.alloc hb0.size (.cells #[.string x.name, .bool x.front, .string x.cond, .string x.strip, .string x.add] 26)
    have c0_1 := cell_newi w0 #[.string x.name, .bool x.front, .string x.cond, .string x.strip, .string x.add] 26 0 (.string x.name) rfl
    have c1_1 := cell_newi w0 #[.string x.name, .bool x.front, .string x.cond, .string x.strip, .string x.add] 26 1 (.bool x.front) rfl
    have c2_1 := cell_newi w0 #[.string x.name, .bool x.front, .string x.cond, .string x.strip, .string x.add] 26 2 (.string x.cond) rfl
    have c3_1 := cell_newi w0 #[.string x.name, .bool x.front, .string x.cond, .string x.strip, .string x.add] 26 3 (.string x.strip) rfl
    have c4_1 := cell_newi w0 #[.string x.name, .bool x.front, .string x.cond, .string x.strip, .string x.add] 26 4 (.string x.add) rfl
    have hul := undV_le x s
    have hyl := appV_le x s
    obtain ⟨u, nu, hu⟩ : ∃ u nu, undV x s = (u, nu) := ⟨_, _, rfl⟩
    obtain ⟨y, ny, hy⟩ : ∃ y ny, appV x s = (y, ny) := ⟨_, _, rfl⟩
    have hu2 : nu = 0 → appV x u = (s, 0) := by intro h; have := und_again (x := x) (w := s) (by rw [hu]; exact h); rwa [hu] at this
    have hy2 : ny = 0 → undV x y = (s, 0) ∧ mafV x s = true := by intro h; have := app_again (x := x) (w := s) (by rw [hy]; exact h); rwa [hy] at this
    have hy3 : ny = 3 → mafV x s = false := by intro h; exact app_not (by rw [hy]; exact h)
    rw [hu] at hul
    rw [hy] at hyl
    have hul : u.size ≤ 12 := hul
    have hyl : y.size ≤ 12 := hyl
    have HU := Lib.hid hu
    have HY := Lib.hid hy
    have HU2 := Lib.hid hu2
    have HY2 := Lib.hid hy2
    have HY3 := Lib.hid hy3
    have hss : s.size ≤ 1048576 := by omega
    obtain ⟨bb, hbb⟩ : ∃ bb, bb = affB x := ⟨_, rfl⟩
    obtain ⟨mm, hmm⟩ : ∃ mm, mm = mafV x s := ⟨_, rfl⟩
    have HA := Lib.hid hbb
    have HM := Lib.hid hmm
    have q1 : (u.toList != u.toList) = false := by simp
    have q2 : (y.toList != y.toList) = false := by simp
    have q3 : (s.toList != s.toList) = false := by simp
    have q4 : (s.toList == s.toList) = true := by simp
    clear hb0 hx hu hy hu2 hy2 hy3 hbb hmm
    go_wp2_with fail
    generalize w0.alloc (.cells #[.string x.name, .bool x.front, .string x.cond, .string x.strip, .string x.add] 26) = w1 at hHB1 c0_1 c1_1 c2_1 c3_1 c4_1 ⊢
    have HB1 := Lib.hid hHB1
    clear hHB1
    refine (implUndoAffix_any _ x s _ ⟨rfl, HX.out.mono (by decide)⟩ (by omega) (HML.out.below HB1.out)).mono ?_
    rw [HU.out]
    rintro e w2 ⟨rfl, hb⟩
    have hz2 : w1.heap.size ≤ w2.heap.size := hb.size
    have HB2 := Lib.hid (HB1.out.trans (hb.mono HB1.out.size))
    have c0_2 := cell_below hb c0_1
    have c1_2 := cell_below hb c1_1
    have c2_2 := cell_below hb c2_1
    have c3_2 := cell_below hb c3_1
    have c4_2 := cell_below hb c4_1
    clear hb HB1 c0_1 c1_1 c2_1 c3_1 c4_1
    go_wp2_with fail
    refine (specUndoAffix_any _ x s _ ⟨rfl, HX.out.mono (by decide)⟩ (by omega) (HML.out.below HB2.out)).mono ?_
    rw [HU.out]
    rintro e w3 ⟨rfl, hb⟩
    have hz3 : w2.heap.size ≤ w3.heap.size := hb.size
    have HB3 := Lib.hid (HB2.out.trans (hb.mono HB2.out.size))
    have c0_3 := cell_below hb c0_2
    have c1_3 := cell_below hb c1_2
    have c2_3 := cell_below hb c2_2
    have c3_3 := cell_below hb c3_2
    have c4_3 := cell_below hb c4_2
    clear hb HB2 c0_2 c1_2 c2_2 c3_2 c4_2
    go_wp2_with fail
    refine (implApplyAffix_any _ x s _ ⟨rfl, HX.out.mono (by decide)⟩ (by omega) (HML.out.below HB3.out)).mono ?_
    rw [HY.out]
    rintro e w4 ⟨rfl, hb⟩
    have hz4 : w3.heap.size ≤ w4.heap.size := hb.size
    have HB4 := Lib.hid (HB3.out.trans (hb.mono HB3.out.size))
    have c0_4 := cell_below hb c0_3
    have c1_4 := cell_below hb c1_3
    have c2_4 := cell_below hb c2_3
    have c3_4 := cell_below hb c3_3
    have c4_4 := cell_below hb c4_3
    clear hb HB3 c0_3 c1_3 c2_3 c3_3 c4_3
    go_wp2_with fail
    refine (specApplyAffix_any _ x s _ ⟨rfl, HX.out.mono (by decide)⟩ (by omega) (HML.out.below HB4.out)).mono ?_
    rw [HY.out]
    rintro e w5 ⟨rfl, hb⟩
    have hz5 : w4.heap.size ≤ w5.heap.size := hb.size
    have HB5 := Lib.hid (HB4.out.trans (hb.mono HB4.out.size))
    have c0_5 := cell_below hb c0_4
    have c1_5 := cell_below hb c1_4
    have c2_5 := cell_below hb c2_4
    have c3_5 := cell_below hb c3_4
    have c4_5 := cell_below hb c4_4
    clear hb HB4 c0_4 c1_4 c2_4 c3_4 c4_4
    go_wp2_with fail
    go_region_held3 (fun w' => w'.cell? ⟨w0.heap.size, 0, none⟩ = some (.string x.name) ∧ w'.cell? ⟨w0.heap.size, 1, none⟩ = some (.bool x.front) ∧ w'.cell? ⟨w0.heap.size, 2, none⟩ = some (.string x.cond) ∧ w'.cell? ⟨w0.heap.size, 3, none⟩ = some (.string x.strip) ∧ w'.cell? ⟨w0.heap.size, 4, none⟩ = some (.string x.add) ∧ Below w5.heap.size w5 w')
      (first | exact ⟨c0_5, c1_5, c2_5, c3_5, c4_5, (Below.refl _ _).drew⟩ | exact keepC hbk (by assumption) fun h => keepC hbk h fun h => keepC hbk h fun h => keepC hbk h fun h => keepC hbk h fun h => keepE hbk h)
      (first
        | (go_at_call 16; refine (implMatchesAffix_any _ x s _ ⟨rfl, HX.out.mono (by decide)⟩ hss ((fun (h : _ ∧ _ ∧ _ ∧ _ ∧ _ ∧ Below w5.heap.size w5 _) => HML.out.below (HB5.out.trans (h.2.2.2.2.2.mono HB5.out.size))) (by assumption))).mono ?_; rw [← HM.out]; rintro e wa ⟨rfl, hbk⟩)
        | (go_at_call 15; refine (specMatchesAffix_any _ x s _ ⟨rfl, HX.out.mono (by decide)⟩ hss ((fun (h : _ ∧ _ ∧ _ ∧ _ ∧ _ ∧ Below w5.heap.size w5 _) => HML.out.below (HB5.out.trans (h.2.2.2.2.2.mono HB5.out.size))) (by assumption))).mono ?_; rw [← HM.out]; rintro e wb ⟨rfl, hbk⟩)
        | (go_at_call 14; refine (implValidAffix_any _ x _ ⟨rfl, HX.out.mono (by decide)⟩ ((fun (h : _ ∧ _ ∧ _ ∧ _ ∧ _ ∧ Below w5.heap.size w5 _) => HML.out.below (HB5.out.trans (h.2.2.2.2.2.mono HB5.out.size))) (by assumption))).mono ?_; rw [← HA.out]; rintro e wc ⟨rfl, hbk⟩)
        | (go_at_call 12; refine (specValidAffix_any _ x _ ⟨rfl, HX.out.mono (by decide)⟩ ((fun (h : _ ∧ _ ∧ _ ∧ _ ∧ _ ∧ Below w5.heap.size w5 _) => HML.out.below (HB5.out.trans (h.2.2.2.2.2.mono HB5.out.size))) (by assumption))).mono ?_; rw [← HA.out]; rintro e w6 ⟨rfl, hbk⟩))
    have hb := (by assumption : _ ∧ _ ∧ _ ∧ _ ∧ _ ∧ Below w5.heap.size w5 w6).2.2.2.2.2
    have hz6 : w5.heap.size ≤ w6.heap.size := hb.size
    have HB6 := Lib.hid (HB5.out.trans (hb.mono HB5.out.size))
    have c0_6 := cell_below hb c0_5
    have c1_6 := cell_below hb c1_5
    have c2_6 := cell_below hb c2_5
    have c3_6 := cell_below hb c3_5
    have c4_6 := cell_below hb c4_5
    clear hb HB5 c0_5 c1_5 c2_5 c3_5 c4_5
    by_cases hnu : nu = 0
    · subst hnu
      have hu2 := HU2.out rfl
      go_wp2_with fail
      refine (implApplyAffix_any _ x u _ ⟨rfl, HX.out.mono (by decide)⟩ (by omega) (HML.out.below HB6.out)).mono ?_
      rw [hu2]
      rintro e w7 ⟨rfl, hb⟩
      have hz7 : w6.heap.size ≤ w7.heap.size := hb.size
      have HB7 := Lib.hid (HB6.out.trans (hb.mono HB6.out.size))
      have c0_7 := cell_below hb c0_6
      have c1_7 := cell_below hb c1_6
      have c2_7 := cell_below hb c2_6
      have c3_7 := cell_below hb c3_6
      have c4_7 := cell_below hb c4_6
      clear hb HB6 c0_6 c1_6 c2_6 c3_6 c4_6
      clear hu2
      by_cases hny : ny = 0
      · subst hny
        obtain ⟨hy2, hmt⟩ := HY2.out rfl
        have HMT := Lib.hid (HM.out.trans hmt)
        clear hmt
        go_wp2_with fail
        refine (implUndoAffix_any _ x y _ ⟨rfl, HX.out.mono (by decide)⟩ (by omega) (HML.out.below HB7.out)).mono ?_
        rw [hy2]
        rintro e w8 ⟨rfl, hb⟩
        have hz8 : w7.heap.size ≤ w8.heap.size := hb.size
        have HB8 := Lib.hid (HB7.out.trans (hb.mono HB7.out.size))
        have c0_8 := cell_below hb c0_7
        have c1_8 := cell_below hb c1_7
        have c2_8 := cell_below hb c2_7
        have c3_8 := cell_below hb c3_7
        have c4_8 := cell_below hb c4_7
        clear hb HB7 c0_7 c1_7 c2_7 c3_7 c4_7
        clear hy2
        go_wp2_with fail
        refine (implMatchesAffix_any _ x s _ ⟨rfl, HX.out.mono (by decide)⟩ hss (HML.out.below HB8.out)).mono ?_
        rw [← HM.out, HMT.out]
        rintro e w9 ⟨rfl, hb⟩
        have hz9 : w8.heap.size ≤ w9.heap.size := hb.size
        have HB9 := Lib.hid (HB8.out.trans (hb.mono HB8.out.size))
        have c0_9 := cell_below hb c0_8
        have c1_9 := cell_below hb c1_8
        have c2_9 := cell_below hb c2_8
        have c3_9 := cell_below hb c3_8
        have c4_9 := cell_below hb c4_8
        clear hb HB8 c0_8 c1_8 c2_8 c3_8 c4_8
        go_wp2
        go_ret
        exact ⟨rfl, HB9.out⟩
      · have hnyB : (ny == 0) = false := by simpa using hny
        by_cases hn3 : ny = 3
        · subst hn3
          have HMF := Lib.hid (HM.out.trans (HY3.out rfl))
          go_wp2_with fail
          refine (implMatchesAffix_any _ x s _ ⟨rfl, HX.out.mono (by decide)⟩ hss (HML.out.below HB7.out)).mono ?_
          rw [← HM.out, HMF.out]
          rintro e w8 ⟨rfl, hb⟩
          have hz8 : w7.heap.size ≤ w8.heap.size := hb.size
          have HB8 := Lib.hid (HB7.out.trans (hb.mono HB7.out.size))
          have c0_8 := cell_below hb c0_7
          have c1_8 := cell_below hb c1_7
          have c2_8 := cell_below hb c2_7
          have c3_8 := cell_below hb c3_7
          have c4_8 := cell_below hb c4_7
          clear hb HB7 c0_7 c1_7 c2_7 c3_7 c4_7
          go_wp2
          go_ret
          exact ⟨rfl, HB8.out⟩
        · have hn3B : (ny != 3) = true := by simpa using hn3
          go_wp2
          go_ret
          exact ⟨rfl, HB7.out⟩
    · have hnuB : (nu == 0) = false := by simpa using hnu
      by_cases hny : ny = 0
      · subst hny
        obtain ⟨hy2, hmt⟩ := HY2.out rfl
        have HMT := Lib.hid (HM.out.trans hmt)
        clear hmt
        go_wp2_with fail
        refine (implUndoAffix_any _ x y _ ⟨rfl, HX.out.mono (by decide)⟩ (by omega) (HML.out.below HB6.out)).mono ?_
        rw [hy2]
        rintro e w7 ⟨rfl, hb⟩
        have hz7 : w6.heap.size ≤ w7.heap.size := hb.size
        have HB7 := Lib.hid (HB6.out.trans (hb.mono HB6.out.size))
        have c0_7 := cell_below hb c0_6
        have c1_7 := cell_below hb c1_6
        have c2_7 := cell_below hb c2_6
        have c3_7 := cell_below hb c3_6
        have c4_7 := cell_below hb c4_6
        clear hb HB6 c0_6 c1_6 c2_6 c3_6 c4_6
        clear hy2
        go_wp2_with fail
        refine (implMatchesAffix_any _ x s _ ⟨rfl, HX.out.mono (by decide)⟩ hss (HML.out.below HB7.out)).mono ?_
        rw [← HM.out, HMT.out]
        rintro e w8 ⟨rfl, hb⟩
        have hz8 : w7.heap.size ≤ w8.heap.size := hb.size
        have HB8 := Lib.hid (HB7.out.trans (hb.mono HB7.out.size))
        have c0_8 := cell_below hb c0_7
        have c1_8 := cell_below hb c1_7
        have c2_8 := cell_below hb c2_7
        have c3_8 := cell_below hb c3_7
        have c4_8 := cell_below hb c4_7
        clear hb HB7 c0_7 c1_7 c2_7 c3_7 c4_7
        go_wp2
        go_ret
        exact ⟨rfl, HB8.out⟩
      · have hnyB : (ny == 0) = false := by simpa using hny
        by_cases hn3 : ny = 3
        · subst hn3
          have HMF := Lib.hid (HM.out.trans (HY3.out rfl))
          go_wp2_with fail
          refine (implMatchesAffix_any _ x s _ ⟨rfl, HX.out.mono (by decide)⟩ hss (HML.out.below HB6.out)).mono ?_
          rw [← HM.out, HMF.out]
          rintro e w7 ⟨rfl, hb⟩
          have hz7 : w6.heap.size ≤ w7.heap.size := hb.size
          have HB7 := Lib.hid (HB6.out.trans (hb.mono HB6.out.size))
          have c0_7 := cell_below hb c0_6
          have c1_7 := cell_below hb c1_6
          have c2_7 := cell_below hb c2_6
          have c3_7 := cell_below hb c3_6
          have c4_7 := cell_below hb c4_6
          clear hb HB6 c0_6 c1_6 c2_6 c3_6 c4_6
          go_wp2
          go_ret
          exact ⟨rfl, HB7.out⟩
        · have hn3B : (ny != 3) = true := by simpa using hn3
          go_wp2
          go_ret
          exact ⟨rfl, HB6.out⟩
end
namespace fnAffixes
open Go.ChangeShapes Go.WideShapes Go.ChangeAt Go.RowKit
open Go.ChangeMaps (open_string shut_string)
set_option maxRecDepth 100000 in
theorem lifted (os : Os) (started : os.Started) (H : Type) (enc : TypeId × Value → H) :
      ReturnsInHanded {} Tryd.checked os 7 .any (fun w args => (Rows.fnAffixesSpec.pre enc Tryd.prog Tryd.f7 Rows.fnAffixesRow.domain false w args ∧ laidMetH Tryd.prog Rows.fnAffixesRow.laid w) ∧ sizedMet enc Tryd.prog Tryd.f7 (OpenSpec.ofChange Rows.fnAffixesSpec) false w args) (Rows.fnAffixesSpec.post enc Tryd.prog Tryd.f7 false true false false) := by
  refine handed_and_shaped (C := Tryd.checked) (X := fun w _ => laidMetH Tryd.prog Rows.fnAffixesRow.laid w) (fun _ _ _ hh h => h.of_heap hh) Tryd.own started (by kernel_rfl) Tryd.func7
    (ChangeSpec.witness_shaped (enc := enc) (C := Tryd.checked) (os := os) (X := fun w _ => laidMetH Tryd.prog Rows.fnAffixesRow.laid w) false (World.laidAll Tryd.prog os Rows.fnAffixesRow.laid) #[.slice none 0 0] 8 (World.laidAll_os _ _ _)
      (World.shaped_of_ZipB (by kernel_rfl) (by kernel_rfl)) (by kernel_rfl) (by kernel_rfl) (by kernel_rfl)
      (by rw [MakeChecks.laidMetH_plain _ _ _ (by kernel_rfl)]; exact laidMet_laidAll _ (by kernel_rfl) (by kernel_rfl))) ?_
  intro W base args ds gs before hval0 hW hsh _
  have hval : ∀ (j : Nat) t v, Tryd.f7.params[j]? = some t → args[j]? = some v → Value.okWide Tryd.prog W .any base t v := hval0
  have hW' := hW
  obtain ⟨p, q, hA0, hV, rfl, hfz, hnd⟩ := hW
  have hA : DataW.TrodAll enc Tryd.prog W 0 (fun _ => true) true Tryd.f7.params.toList args.toList ds p := hA0
  rw [Tryd.params7] at hA hval
  obtain ⟨v0, vs0, d0, ds0, p0, q0, hargs, rfl, rfl, h0, r0⟩ := trodAll_cons hA
  obtain ⟨rfl, rfl, rfl⟩ := trodAll_nil r0
  obtain rfl : args = #[v0] := by cases args; simp_all
  obtain ⟨rfl, rfl⟩ := trodVars_none hV
  obtain ⟨a0, w0⟩ := open_bytes (hval 0 33 v0 rfl rfl) h0
  refine (fnAffixes_walk v0 a0 w0 (w := W) (hML := MaxL.shaped hsh)).mono fun e W' ⟨he, hg⟩ => ?_
  subst he
  exact ⟨_, rfl, law_post Tryd.laidOut (by kernel_rfl) (by kernel_rfl) Tryd.underlying4 rfl rfl hW' hg⟩

theorem over : Rows.fnAffixesRow.holds Tryd.pinned (OpenSpec.ofChange Rows.fnAffixesSpec) :=
  OpenClaim.holds_of_wide 7 Tryd.f7 rfl rfl rfl rfl rfl rfl rfl ⟨rfl, rfl, rfl, rfl, rfl⟩ rfl rfl rfl rfl rfl (by kernel_rfl) Tryd.func7 (by kernel_rfl)
    (of_decide_eq_true (by kernel_rfl)) (by unfold Func.isWrapper; first | (rw [if_pos (by decide +kernel)]; kernel_rfl) | (rw [if_neg (by decide +kernel)]; exact ⟨rfl, rfl⟩))
    (fun os started H enc _ => lifted os started H enc)

theorem proved : Rows.FnAffixesCardSaid :=
  Claim7.holds_tied_plain_at .later [] [.data, .pinned] true (true, "83fdfcac07b4608faad427d63bdcaee19084c6247cd7546447dc9fe137e24c17") false over (fun _ h => by cases h) (by kernel_rfl) (fun _ h => by cases h) fnAffixes_row_tie rfl ⟨rfl, rfl⟩ (by kernel_rfl) rfl
    (fun f fn hf hfn => by
      obtain rfl : f = 7 := Option.some.inj ((show Tryd.prog.funcNamed "loop.example/g00911/laws.FnAffixes" = some 7 by kernel_rfl).symm.trans hf) |>.symm
      obtain rfl : fn = Tryd.f7 := (Option.some.inj (Tryd.func7.symm.trans hfn)).symm
      exact ⟨by kernel_rfl, fun j t ht => by
        rw [Tryd.params7] at ht
        have hm : t ∈ [33] := by simpa using Array.mem_of_getElem? ht
        have hall : ([33].all fun u => !Tryd.prog.wantsStandIn u) = true := by kernel_rfl
        exact (show Tryd.prog.wantsStandIn t = false by simpa using List.all_eq_true.1 hall t hm)⟩)
    (by kernel_rfl)
end fnAffixes

end Go.Proofs.YtjefmicahadijaaDoor
