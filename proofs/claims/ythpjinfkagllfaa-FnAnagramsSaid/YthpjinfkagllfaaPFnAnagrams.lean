/- FnAnagrams returns true for all bytes: anagrams have the same sorted letters, and words that can be made from their own letters are found. No condition. -/
import Derived.Test.YthpjinfkagllfaaF
import Derived.Test.YthpjinfkagllfaaFaL
import Derived.Test.YthpjinfkagllfaaFaW
import Derived.Test.YthpjinfkagllfaaTs
import Derived.Test.YthpjinfkagllfaaAg
import Derived.Test.YthpjinfkagllfaaBy
set_option linter.unusedSimpArgs false
namespace Go.Proofs.Ythpjinfkagllfaa
open Go.RowKit
theorem plcV_long {s : ByteArray} (h : isLong s = true) : plcV s = sortB s := by
  have hw := isLong_word h
  have hsm : ∀ c ∈ s.data.toList, smallI c.toNat = true := by
    have h2 := hw
    simp only [isWord, Bool.and_eq_true] at h2
    exact List.all_eq_true.1 h2.1
  have hp : plcAll s.data.toList = true := List.all_eq_true.2 fun c hc => by simp [plcI, hsm c hc]
  have hi : isPlc s = true := by
    have h2 := hw
    simp only [isWord, Bool.and_eq_true] at h2
    simp only [isPlc, hp, Bool.true_and]
    exact h2.2
  have hm : s.data.toList.map tileOf = s.data.toList := by
    conv => rhs; rw [← List.map_id s.data.toList]
    refine List.map_congr_left fun c hc => ?_
    have h1 := hsm c hc
    have h2 : capI c.toNat = false := by
      simp only [smallI, Bool.and_eq_true, decide_eq_true_eq] at h1
      simp only [capI, Bool.and_eq_false_iff, decide_eq_false_iff_not]
      omega
    simp [tileOf, h2]
  rw [plcV_eq s hi, plcTiles, hm]; rfl
section
attribute [local irreducible] Calls
/-- The tiles of a long word. -/
theorem tilesL_any (s : ByteArray) (w : World) (hs : isLong s = true) :
    Calls Try.prog 27 #[.string s] w fun e w' => e = .returned (.string (sortB s)) ∧ Below w.heap.size w w' := by
  have := specTilesOfWord_any s w (by have := long_size hs; omega)
  rw [plcV_long hs] at this
  exact this
theorem tilesL_is {s r : ByteArray} (h : sortB s = r) (w : World) (hs : isLong s = true) :
    Calls Try.prog 27 #[.string s] w fun e w' => e = .returned (.string r) ∧ Below w.heap.size w w' := h ▸ tilesL_any s w hs
theorem containsL_is {s t : ByteArray} {b : Bool} (h : containsV (sortB s) (sortB t) = b) (w : World) (hs : isLong s = true) (ht : isLong t = true) :
    Calls Try.prog 30 #[.string (sortB s), .string (sortB t)] w fun e w' => e = .returned (.bool b) ∧ Below w.heap.size w w' := by
  subst h
  exact specContainsTiles_any _ _ w (by have := (sortB_pile hs).2.1; have := long_size hs; omega) (by have := (sortB_pile ht).2.1; have := long_size ht; omega)
theorem hasWord_is {u : Value} {l : List ByteArray} {p : ByteArray} {b : Bool} (h : hasB l p = b) (w : World) (hu : Strs w u l) (hl : lexB l = true) :
    Calls Try.prog 29 #[.agg #[u], .string p] w fun e w' => e = .returned (.bool b) ∧ Below w.heap.size w w' := h ▸ hasWord_any u l p w hu hl
theorem a2In_is {u : Value} {l : List ByteArray} {p : ByteArray} {b : Bool} (h : seenB l l.length p = b) (w : World) (hu : Strs w u l) (hn : l.length ≤ 1048576) :
    Calls Try.prog 31 #[u, .string p] w fun e w' => e = .returned (.bool b) ∧ Below w.heap.size w w' := h ▸ a2In_any u l p w hu hn
set_option maxHeartbeats 8000000 in
set_option maxRecDepth 20000 in
theorem fnAnagrams_walk (w : World) (v0 : Value) (x0 : List UInt8) (hv0 : BytesR w v0 x0) (v1 : Value) (x1 : List UInt8) (hv1 : BytesR w v1 x1) :
    Calls Try.prog 7 #[v0, v1] w fun e w' => e = .returned (.bool true) ∧ Below w.heap.size w w' := by
  have HV0 := Lib.hid hv0
  have HV1 := Lib.hid hv1
  obtain ⟨pa, pc, rfl, hcl, hcm⟩ := hv0.shape
  obtain ⟨qa, qc, rfl, hdl, hdm⟩ := hv1.shape
  clear hv0 hv1
  by_cases hlong : 3000 < x0.length ∨ 3000 < x1.length
  · go_enter Try.func7, Try.ntmps7
    go_wp2_with fail
    refine (a2Long_any _ _ _ _ _ _ _ (by omega) (by omega)).mono ?_
    rw [decide_eq_true hlong]
    rintro e w1 ⟨rfl, rfl⟩
    go_wp2
    go_ret
    exact ⟨rfl, Below.refl _ _⟩
  · go_enter Try.func7, Try.ntmps7
    go_wp2_with fail
    refine (a2Long_any _ _ _ _ _ _ _ (by omega) (by omega)).mono ?_
    rw [decide_eq_false hlong]
    rintro e w1 ⟨rfl, rfl⟩
    go_wp2_with fail
    refine (a2Lexicon_any _ x0 _ HV0.out (by omega)).mono ?_
    rintro e w1 ⟨u, l, rfl, hu, hlx, hl16, hb1⟩
    obtain ⟨la, lc, rfl, hll, hlc, -⟩ := hu.shape
    unfold maxLen at hlc
    have hbx : Below w1.heap.size w1 (w1.alloc (.cells #[.slice la l.length lc] 40)) := (Below.refl _ _).alloc (Nat.le_refl _) _
    have c0 := cell_newD w1 #[.slice la l.length lc] 40 0 (.slice la l.length lc) rfl
    have HU := Lib.hid (hu.below hbx)
    have HV2 := Lib.hid ((HV1.out.below hb1).below hbx)
    have HB1 := Lib.hid (hb1.trans (hbx.mono hb1.size))
    have HLX := Lib.hid hlx
    have hz1 : w1.heap.size < (w1.alloc (.cells #[.slice la l.length lc] 40)).heap.size := by simp
    clear hu hlx hb1 hbx HV0 HV1
    go_wp2_with fail
    refine (a2Word_any _ x1 _ HV2.out (by omega)).mono ?_
    rintro e w2 ⟨a, rfl, ha, hb2⟩
    have c2 := cell_below hb2 c0
    have HU2 := Lib.hid (HU.out.below hb2)
    have HB2 := Lib.hid (HB1.out.trans (hb2.mono HB1.out.size))
    have LAW := Lib.hid (anLaw HLX.out ha)
    have HA := Lib.hid ha
    have ha12 := long_size ha
    have hz2 : w1.heap.size < w2.heap.size := Nat.lt_of_lt_of_le hz1 hb2.size
    clear c0 hb2 HU HB1 HV2 ha hz1
    go_wp2_with fail
    refine (implAnagramsOf_any _ l a _ ⟨_, rfl, HU2.out⟩ (by omega)).mono ?_
    rw [LAW.out.ag]
    obtain ⟨A, hA⟩ : ∃ A, A = agV l a := ⟨_, rfl⟩
    rw [← hA]
    rintro e w3 ⟨v1, rfl, hv1, hb3⟩
    have c3 := cell_below hb3 c2
    have HU3 := Lib.hid (HU2.out.below hb3)
    have HB3 := Lib.hid (HB2.out.trans (hb3.mono HB2.out.size))
    have HA1 := Lib.hid hv1.read
    have HAe := Lib.hid hA
    have hz3 : w1.heap.size < w3.heap.size := Nat.lt_of_lt_of_le hz2 hb3.size
    clear c2 hb3 HU2 HB2 hv1 hz2 hA
    go_wp2_with fail
    go_region_held3 (fun w' => w'.cell? ⟨w1.heap.size, 0, none⟩ = some (.slice la l.length lc) ∧ Below w3.heap.size w3 w')
      (first | exact ⟨c3, (Below.refl _ _).drew⟩ | exact keepC hbk (by assumption) fun h => keepE hbk h)
      (first
        | (go_at_call 27; refine (tilesL_any a _ HA.out).mono ?_; rintro e wt ⟨rfl, hbk⟩)
        | (go_at_call 26; refine (implWordsFrom_any _ l (sortB a) _ ⟨_, rfl, ((fun (h : _ ∧ Below w3.heap.size w3 _) => HU3.out.below h.2) (by assumption))⟩ (by have := (sortB_pile HA.out).2.1; omega)).mono ?_; rw [LAW.out.wf]; rintro e w4 ⟨v2, rfl, hv2, hbk⟩))
    have hb4 := (by assumption : _ ∧ Below w3.heap.size w3 w4).2
    obtain ⟨F, hF⟩ : ∃ F, F = wfV l (sortB a) := ⟨_, rfl⟩
    rw [← hF] at hv2
    have c4 := cell_below hb4 c3
    have HU4 := Lib.hid (HU3.out.below hb4)
    have HB4 := Lib.hid (HB3.out.trans (hb4.mono HB3.out.size))
    have HA4 := Lib.hid (HA1.out.below hb4)
    have HF4 := Lib.hid hv2.read
    have HFe := Lib.hid hF
    have hz4 : w1.heap.size < w4.heap.size := Nat.lt_of_lt_of_le hz3 hb4.size
    have hlenA : A.length ≤ 200 := by rw [HAe.out]; exact LAW.out.agLen
    have hlenF : F.length ≤ 200 := by rw [HFe.out]; exact LAW.out.wfLen
    obtain ⟨aa, ac, rfl, haa, hac, -⟩ := HA4.out.shape
    obtain ⟨fa, fc, rfl, hfa, hfc, -⟩ := HF4.out.shape
    unfold maxLen at hac hfc
    clear c3 hb4 HU3 HB3 HA1 hv2 hF hz3 hbk
    go_wp2_with fail
    refine (a2Rises_any _ A _ HA4.out (by rw [HAe.out]; exact LAW.out.agInc) (by omega)).mono ?_
    rintro e w5 ⟨rfl, hb5⟩
    go_wp2_with fail
    refine (a2Rises_any _ F _ (HF4.out.below hb5) (by rw [HFe.out]; exact LAW.out.wfInc) (by omega)).mono ?_
    rintro e w6 ⟨rfl, hb6⟩
    have hb46 := hb5.trans (hb6.mono hb5.size)
    have c6 := cell_below hb46 c4
    have HU6 := Lib.hid (HU4.out.below hb46)
    have HB6 := Lib.hid (HB4.out.trans (hb46.mono HB4.out.size))
    have HA6 := Lib.hid (HA4.out.below hb46)
    have HF6 := Lib.hid (HF4.out.below hb46)
    have hz6 : w1.heap.size < w6.heap.size := Nat.lt_of_lt_of_le hz4 hb46.size
    obtain ⟨q1, q2, eq, -, -, hcA⟩ := HA6.out.shape
    cases eq
    obtain ⟨q1, q2, eq, -, -, hcF⟩ := HF6.out.shape
    cases eq
    obtain ⟨q1, q2, eq, -, -, hcU⟩ := HU6.out.shape
    cases eq
    have HCA := Lib.hid hcA
    have HCF := Lib.hid hcF
    have HCU := Lib.hid hcU
    have HB0 := Lib.hid (Below.refl w6.heap.size w6)
    have HC6 := Lib.hid c6
    clear c4 hb5 hb6 hb46 HU4 HB4 HA4 HF4 hz4 hcA hcF hcU c6
    go_wp2
    go_loopw [11] (fun i wr => ∃ j : Nat, j ≤ A.length ∧ i = .int .i64 (j : Int) ∧ Hid (Below w6.heap.size w6 wr)) (fun i _ => A.length - (intOf i).toNat)
    case atStart => exact ⟨0, by omega, rfl, HB0⟩
    case round =>
      obtain ⟨j, hj, rfl, HB⟩ := hrel
      have hsq : ((sortB a).toList == (sortB a).toList) = true := by simp
      by_cases hlt : j < A.length
      · have hltI : (j : Int) < (A.length : Int) := by omega
        obtain ⟨b1, o1, eA, hc1, -⟩ := HCA.out j hlt
        have hc1 := cell_below HB.out hc1
        have c7 := cell_below HB.out HC6.out
        obtain ⟨g1, g2, g3⟩ := LAW.out.agAll A[j] (by rw [← HAe.out]; exact List.getElem_mem _)
        have HG := Lib.hid (And.intro g1 (And.intro g2 g3))
        have HUr := Lib.hid (HU6.out.below HB.out)
        subst eA
        clear g1 g2 g3
        go_wp2
        go_region_held3 (fun w' => w'.cell? ⟨w1.heap.size, 0, none⟩ = some (.slice la l.length lc) ∧ w'.cell? ⟨b1, o1 + j, none⟩ = some (.string A[j]) ∧ Below wr.heap.size wr w')
          (first | exact ⟨c7, hc1, (Below.refl _ _).drew⟩ | exact keepC hbk (by assumption) fun h => keepC hbk h fun h => keepE hbk h)
          (first
            | (go_at_call 27; refine (tilesL_is HG.out.2.1 _ HG.out.1).mono ?_; rintro e wt ⟨rfl, hbk⟩)
            | (go_at_call 27; refine (tilesL_any a _ HA.out).mono ?_; rintro e wt2 ⟨rfl, hbk⟩)
            | (go_at_call 29; refine (hasWord_is HG.out.2.2 _ ((fun (h : _ ∧ _ ∧ Below wr.heap.size wr _) => HUr.out.below h.2.2) (by assumption)) HLX.out).mono ?_; rintro e w7 ⟨rfl, hbk⟩))
        have hb7 := (by assumption : _ ∧ _ ∧ Below wr.heap.size wr w7).2.2
        have HBn := Lib.hid (HB.out.trans (hb7.mono HB.out.size))
        clear hb7 hbk
        go_wp2
        go_roundw
        case rel => exact ⟨j + 1, by omega, by go_num, HBn⟩
        case measure => simp [intOf]; omega
      · obtain rfl : j = A.length := by omega
        go_wp2
        go_loopw [12] (fun i wr => ∃ j : Nat, j ≤ l.length ∧ i = .int .i64 (j : Int) ∧ Hid (Below w6.heap.size w6 wr)) (fun i _ => l.length - (intOf i).toNat)
        case atStart => exact ⟨0, by omega, rfl, HB⟩
        case round =>
          clear HB
          obtain ⟨j, hj, rfl, HB⟩ := hrel
          have c7 := cell_below HB.out HC6.out
          by_cases hlt : j < l.length
          · have hltI : (j : Int) < (l.length : Int) := by omega
            go_wp2
            go_loopw [13, 14] (fun f k wq => ∃ (k' : Nat) (sb : Bool), k' ≤ F.length ∧ k = .int .i64 (k' : Int) ∧ f = .bool sb ∧ Hid (sb = seenB F k' l[j]) ∧ Hid (Below w6.heap.size w6 wq)) (fun _ k _ => F.length - (intOf k).toNat)
            case atStart => exact ⟨0, false, by omega, rfl, rfl, Lib.hid rfl, HB⟩
            case round =>
              clear HB c7
              obtain ⟨k, sb, hk, rfl, rfl, Hsb, HB⟩ := hrel
              have c7 := cell_below HB.out HC6.out
              obtain ⟨b2, o2, eU, hc2, -⟩ := HCU.out j hlt
              have hc2 := cell_below HB.out hc2
              subst eU
              by_cases hkl : k < F.length
              · have hklI : (k : Int) < (F.length : Int) := by omega
                obtain ⟨b3, o3, eF, hc3, -⟩ := HCF.out k hkl
                have hc3 := cell_below HB.out hc3
                subst eF
                obtain ⟨q, hq⟩ : ∃ q, q = (F[k].toList == l[j].toList) := ⟨_, rfl⟩
                have Hq := Lib.hid hq
                have hq2 := hq.symm
                clear hq
                cases sb <;> cases q
                all_goals
                  go_wp2
                  go_quiet (fail)
                  go_wp2
                  go_roundw
                all_goals first
                  | exact ⟨k + 1, true, by omega, by go_num, rfl, Lib.hid (by rw [seenB_succ hkl, ← Hsb.out, ← Hq.out]; rfl), Lib.hid (below_drewN HB.out _)⟩
                  | exact ⟨k + 1, false, by omega, by go_num, rfl, Lib.hid (by rw [seenB_succ hkl, ← Hsb.out, ← Hq.out]; rfl), Lib.hid (below_drewN HB.out _)⟩
                  | (simp [intOf]; omega)
              · obtain rfl : k = F.length := by omega
                have hcv : containsV (sortB a) (sortB l[j]) = sb := by rw [Hsb.out, HFe.out]; exact (LAW.out.wfAll l[j] (List.getElem_mem _)).symm
                have HCV := Lib.hid hcv
                have hlj := lexB_long HLX.out l[j] (List.getElem_mem _)
                have HLJ := Lib.hid hlj
                clear hcv hlj
                cases sb
                all_goals
                  go_wp2_with fail
                  go_region_held3 (fun w' => w'.cell? ⟨w1.heap.size, 0, none⟩ = some (.slice (some ⟨b2, o2, none⟩) l.length lc) ∧ w'.cell? ⟨b2, o2 + j, none⟩ = some (.string l[j]) ∧ Below wr.heap.size wr w')
                    (first | exact ⟨c7, hc2, (Below.refl _ _).drew⟩ | exact keepC hbk (by assumption) fun h => keepC hbk h fun h => keepE hbk h)
                    (first
                      | (go_at_call 27; refine (tilesL_any l[j] _ HLJ.out).mono ?_; rintro e wt ⟨rfl, hbk⟩)
                      | (go_at_call 27; refine (tilesL_any a _ HA.out).mono ?_; rintro e wt2 ⟨rfl, hbk⟩)
                      | (go_at_call 30; refine (containsL_is HCV.out _ HA.out HLJ.out).mono ?_; rintro e w7 ⟨rfl, hbk⟩))
                  have hb7 := (by assumption : _ ∧ _ ∧ Below wr.heap.size wr w7).2.2
                  have HBn := Lib.hid (HB.out.trans (hb7.mono HB.out.size))
                  clear hb7 hbk
                  go_wp2
                  go_roundw
                all_goals first
                  | exact ⟨j + 1, by omega, by go_num, HBn⟩
                  | (simp [intOf]; omega)
          · obtain rfl : j = l.length := by omega
            have HUw := Lib.hid (HU6.out.below HB.out)
            have HAw := Lib.hid (HA6.out.below HB.out)
            clear hz6
            go_wp2_with fail
            refine (hasWord_any _ l a _ HUw.out HLX.out).mono ?_
            rintro e w8 ⟨rfl, hb8⟩
            have HA8 := Lib.hid (HAw.out.below hb8)
            have HB8 := Lib.hid (HB6.out.trans ((HB.out.trans (hb8.mono HB.out.size)).mono HB6.out.size))
            have hlast := LAW.out.last
            rw [← HAe.out] at hlast
            obtain ⟨p, hp⟩ : ∃ p, hasB l a = p := ⟨_, rfl⟩
            rw [hp] at hlast ⊢
            by_cases h0 : 0 < A.length
            · have h0I : (0 : Int) < (A.length : Int) := by omega
              rw [decide_eq_true h0, Bool.true_and] at hlast
              have HLast := Lib.hid hlast
              clear hlast hp hb8
              go_wp2_with fail
              refine (a2In_is HLast.out.symm _ HA8.out (by omega)).mono ?_
              rintro e w9 ⟨rfl, hb9⟩
              have HB9 := Lib.hid (HB8.out.trans (hb9.mono HB8.out.size))
              clear hb9
              cases p
              all_goals
                go_wp2
                go_ret
                exact ⟨rfl, HB9.out⟩
            · have h0I : ¬ ((0 : Int) < (A.length : Int)) := by omega
              rw [decide_eq_false h0, Bool.false_and] at hlast
              subst hlast
              clear hp hb8
              go_wp2
              go_ret
              exact ⟨rfl, HB8.out⟩
end
namespace fnAnagrams
open Go.ChangeShapes Go.WideShapes Go.ChangeAt Go.RowKit
open Go.ChangeMaps (open_string shut_string)
set_option maxRecDepth 100000 in
theorem lifted (os : Os) (started : os.Started) (H : Type) (enc : TypeId × Value → H) :
    ReturnsInHanded {} Try.checked os 7 .any (Rows.fnAnagramsSpec.pre6 enc Try.prog Try.f7 Rows.fnAnagramsRow.domain false) (Rows.fnAnagramsSpec.post enc Try.prog Try.f7 false true false false) := by
  refine returnsInHanded_of_change (C := Try.checked) Try.own started (by kernel_rfl) Try.func7
    (ChangeSpec.witness6 (enc := enc) (C := Try.checked) false ⟨#[], #[.slice none 0 0, .slice none 0 0], []⟩ 8 (by kernel_rfl) (by kernel_rfl) (by kernel_rfl) (by kernel_rfl)) ?_
  intro W base args ds gs before hval0 hW hcnd _
  have hval : ∀ (j : Nat) t v, Try.f7.params[j]? = some t → args[j]? = some v → Value.okWide Try.prog W .any base t v := hval0
  have hW' := hW
  obtain ⟨p, q, hA0, hV, rfl, hfz, hnd⟩ := hW
  have hA : DataW.TrodAll enc Try.prog W 0 (fun _ => true) true Try.f7.params.toList args.toList ds p := hA0
  rw [Try.params7] at hA hval
  obtain ⟨v0, vs0, d0, ds0, p0, q0, hargs, rfl, rfl, h0, r0⟩ := trodAll_cons hA
  obtain ⟨v1, vs1, d1, ds1, p1, q1, rfl, rfl, rfl, h1, r1⟩ := trodAll_cons r0
  obtain ⟨rfl, rfl, rfl⟩ := trodAll_nil r1
  obtain rfl : args = #[v0, v1] := by cases args; simp_all
  obtain ⟨rfl, rfl⟩ := trodVars_none hV
  obtain ⟨a0, w0⟩ := open_bytes (hval 0 30 v0 rfl rfl) h0
  obtain ⟨a1, w1⟩ := open_bytes (hval 1 30 v1 rfl rfl) h1
  refine (fnAnagrams_walk v0 a0 w0 v1 a1 w1 (w := W)).mono fun e W' ⟨he, hg⟩ => ?_
  subst he
  exact ⟨_, rfl, law_post Try.laidOut (by kernel_rfl) (by kernel_rfl) Try.underlying4 rfl rfl hW' hg⟩

theorem over : Rows.fnAnagramsRow.holds Try.pinned (OpenSpec.ofChange Rows.fnAnagramsSpec) :=
  OpenClaim.holds_of_wide 7 Try.f7 rfl rfl rfl rfl rfl rfl rfl ⟨rfl, rfl, rfl, rfl, rfl⟩ rfl rfl rfl rfl rfl (by kernel_rfl) Try.func7 (by kernel_rfl)
    (of_decide_eq_true (by kernel_rfl)) (by unfold Func.isWrapper; first | (rw [if_pos (by decide +kernel)]; kernel_rfl) | (rw [if_neg (by decide +kernel)]; exact ⟨rfl, rfl⟩))
    (fun os started H enc _ => lifted os started H enc)

theorem proved : Rows.FnAnagramsSaid := over
end fnAnagrams

end Go.Proofs.Ythpjinfkagllfaa
