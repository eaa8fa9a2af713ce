/- WordOf of the program. Conditions: the readings; MaxLen's cell. -/
import Derived.Test.YtgefgdkejenhnaaDoorWod
set_option linter.unusedSimpArgs false
namespace Go.Proofs.YtgefgdkejenhnaaDoor
open Go.RowKit
attribute [local irreducible] Calls
set_option maxHeartbeats 4000000 in
set_option maxRecDepth 100000 in
theorem applied_any (v : Value) (x : GraD) (s : ByteArray) (v2 : Value) (names : List ByteArray) (w : World) (hv : GraR w v x) (hok : AffsOk x.affixes) (hs : isLong s = true) (hn : Strs w v2 names) (hin : ∀ n ∈ names, hasB x.affixes n = true) (hM : MaxL w) :
    Calls Tryd.prog 44 #[v, .string s, v2] w fun e w' => WordPost x.affixes s names e ∧ Below w.heap.size w w' := by
  have HV := Lib.hid hv
  have HM := Lib.hid hM
  have Hok0 := Lib.hid hok
  have Hin := Lib.hid hin
  have Hs := Lib.hid hs
  obtain ⟨s1, s2, rfl, ha, hst⟩ := hv
  obtain ⟨a1, k1, rfl, -⟩ := ha.shape
  obtain ⟨a2, k2, rfl, -⟩ := hst.shape
  obtain ⟨a3, k3, rfl, hl3, hk3, hcs3⟩ := hn.shape
  unfold maxLen at hk3
  clear ha hst hn hok hin hs hM
  go_enter Tryd.func44, Tryd.ntmps44
  go_wp2
  go_loopw [1, 16] (fun cv i wr => ∃ (j : Nat) (cur : ByteArray), j ≤ names.length ∧ i = .int .i64 (j : Int) ∧ cv = .string cur ∧ Hid (WordAt x.affixes s names j cur) ∧ wr.cell? ⟨w.heap.size, 0, none⟩ = some (.slice a1 x.affixes.length k1) ∧ wr.cell? ⟨w.heap.size, 1, none⟩ = some (.slice a2 x.stems.length k2) ∧ Below w.heap.size w wr) (fun _ i _ => names.length - (intOf i).toNat)
  case atStart => exact ⟨0, s, by omega, rfl, rfl, Lib.hid (WordAt.start Hs.out), cell_newi w _ _ 0 _ rfl, cell_newi w _ _ 1 _ rfl, (Below.refl _ _).alloc (Nat.le_refl _) _⟩
  case round =>
    obtain ⟨j, cur, hj, rfl, rfl, Hat, g0, g1, hb⟩ := hrel
    have HB := Lib.hid hb
    have hsz := hb.size
    by_cases hlt : j < names.length
    · obtain ⟨b2, o2, rfl, c2, -⟩ := hcs3 j hlt
      have c2 := (hb.cell (cell_lt c2)).trans c2
      have hh := Hin.out names[j] (List.getElem_mem hlt)
      have Hok := Lib.hid (affOf_ok Hok0.out hh)
      have Hhh := Lib.hid hh
      have Hcur := Lib.hid Hat.out.2
      clear hcs3 hb hh
      obtain ⟨r, hr⟩ : ∃ r, r = affOf x.affixes names[j] := ⟨_, rfl⟩
      have Hr := Lib.hid hr
      have hcode := apV_code r cur
      have hlim : Hid (AffLim r maxLen) := Lib.hid (by
        obtain ⟨i, hi, -, -, -, e⟩ := hasB_at Hhh.out
        rw [hr, e]
        obtain ⟨t1, t2, ht, ha, -⟩ := HV.out
        exact ha.2 _ (List.getElem_mem hi))
      go_wp2_with fail
      refine (affixNamed_is _ x names[j] _ (HV.out.below HB.out)).mono ?_
      rw [← hr, Hhh.out]
      rintro e w2 ⟨rfl, hb2⟩
      have g0 := cell_below hb2 g0
      have g1 := cell_below hb2 g1
      have HB2 := Lib.hid (HB.out.trans (hb2.mono hsz))
      have hz2 := HB2.out.size
      have hbA : Below w2.heap.size w2 (w2.alloc (.cells #[.string r.name, .bool r.front, .string r.cond, .string r.strip, .string r.add] 64)) := (Below.refl _ _).alloc (Nat.le_refl _) _
      have HBA := Lib.hid (HB2.out.trans (hbA.mono hz2))
      have g0' := cell_below hbA g0
      have g1' := cell_below hbA g1
      clear hb2 hr hbA
      go_wp2_with fail
      refine (implApplyAffix_any _ r cur _ ⟨rfl, hlim.out⟩ (by have := isLong_12 Hcur.out; omega) (HM.out.below HBA.out)).mono ?_
      rw [show appV r cur = apV r cur from appV_ap (by rw [Hr.out]; exact Hok.out) Hcur.out]
      rintro e w3 ⟨rfl, hb3⟩
      have g0 := cell_below hb3 g0'
      have g1 := cell_below hb3 g1'
      have HB3 := Lib.hid (HBA.out.trans (hb3.mono HBA.out.size))
      clear hb3 g0' g1'
      by_cases hz : (apV r cur).2 = 0
      · have Hnx := Lib.hid (show WordAt x.affixes s names (j + 1) (apV r cur).1 by have := Hat.out.next hlt (by rw [← Hr.out]; exact hz); rwa [← Hr.out] at this)
        have hzq : ((apV r cur).2 != 0) = false := by rw [hz]; rfl
        clear hz hcode
        go_wp2
        go_roundw
        case rel => exact ⟨j + 1, _, by omega, by go_num, rfl, Hnx, g0, g1, HB3.out⟩
        case measure => simp [intOf]; omega
      · have Hfl := Lib.hid (show wordV x.affixes s names = (⟨#[]⟩, (apV r cur).2) by have := Hat.out.fail hlt (by rw [← Hr.out]; exact hz); rwa [← Hr.out] at this)
        have hzq : ((apV r cur).2 != 0) = true := by rw [bne_iff_ne]; exact hz
        clear hz hcode
        go_wp2
        go_ret2
        exact ⟨by unfold WordPost; rw [Hfl.out]; rfl, HB3.out⟩
    · have Hd := Lib.hid (Hat.out.done (by omega))
      clear hcs3
      go_wp2
      go_ret2
      exact ⟨by unfold WordPost; rw [Hd.out]; rfl, hb⟩
set_option maxHeartbeats 8000000 in
set_option maxRecDepth 100000 in
theorem isDerivation_any (v : Value) (x : GraD) (v2 : Value) (d : DerD) (w : World) (hv : GraR w v x) (hd : DerR w v2 d) :
    Calls Tryd.prog 43 #[v, v2] w fun e w' => e = .returned (.bool (derB x d)) ∧ Below w.heap.size w w' := by
  obtain ⟨s1, s2, rfl, ha, hs⟩ := hv
  obtain ⟨u, rfl, hdw, hdu⟩ := hd
  have hb0 : Below w.heap.size w ((w.alloc (.cells #[s1, s2] 31)).alloc (.cells #[.string d.stem, u] 41)) := ((Below.refl _ _).alloc (Nat.le_refl _) _).alloc (by simp) _
  have hG1 := (src_cell (i := 1) (v := s2) (heap_alloc2_old w (.cells #[s1, s2] 31) (.cells #[.string d.stem, u] 41)) rfl).1
  have hD0 := (src_cell (i := 0) (v := .string d.stem) (heap_alloc2_new w (.cells #[s1, s2] 31) (.cells #[.string d.stem, u] 41)) rfl).1
  have hD1 := (src_cell (i := 1) (v := u) (heap_alloc2_new w (.cells #[s1, s2] 31) (.cells #[.string d.stem, u] 41)) rfl).1
  have hmf : ∀ (fn : Fn) (first cap : Array Value) (w : World), (Instr.makeFunc fn first cap).run Tryd.prog w = .ok (.func fn first cap) w := fun _ _ _ _ => rfl
  have HD := Lib.hid hdu
  have Hs := Lib.hid hs
  obtain ⟨a1, k1, rfl, -⟩ := ha.shape
  obtain ⟨a2, k2, rfl, hl2, hk2, hcs2⟩ := hs.shape
  obtain ⟨da, dc, rfl, hdl, hdc, hds⟩ := hdu.shape
  unfold maxLen at hdc hk2
  have HB0 := Lib.hid hb0
  have Hs0 := Lib.hid (hs.below hb0)
  clear ha hs hdu hb0
  go_enter Tryd.func43, Tryd.ntmps43
  go_wp2_with fail
  refine (indexStem_any _ x.stems d.stem (w.heap.size + 1) _ Hs0.out hD0).mono ?_
  rintro e w1 ⟨rfl, hb1⟩
  have jD1 := cell_below hb1 hD1
  have jG1 := cell_below hb1 hG1
  have HB1 := Lib.hid (HB0.out.trans (hb1.mono HB0.out.size))
  have hz1 := HB1.out.size
  clear hb1 hmf hD0 hD1 hG1
  rcases stm_cases x.stems d.stem with ⟨hi, -⟩ | ⟨i, hii, hi, -, -⟩
  · have Hno := Lib.hid (show derB x d = false from derB_no fun ⟨j, hj, h1, h2, h3⟩ => by omega)
    rw [hi]
    clear hcs2 hds hi
    go_wp2
    go_ret
    exact ⟨ret_bool Hno.out.symm, HB1.out⟩
  · rw [hi]
    have Hi := Lib.hid hi
    clear hi
    have hi0 : (0 : Int) ≤ (i : Int) := by omega
    have hin : decide ((i : Int) < 0) = false := by rw [decide_eq_false_iff_not]; omega
    have hiI : (i : Int) < (x.stems.length : Int) := by omega
    obtain ⟨b4, o4, u4, he4, f0, f1, -, hu4⟩ := hcs2 i hii
    have HU4 := Lib.hid hu4
    obtain ⟨a5, k5, rfl, -⟩ := hu4.shape
    subst he4
    have f1 := (HB1.out.cell (cell_lt f1)).trans f1
    clear hcs2 f0 hu4
    by_cases h2 : d.affixes.length ≤ 2
    · have hd2 : decide ((2 : Int) < (d.affixes.length : Int)) = false := by rw [decide_eq_false_iff_not]; omega
      go_wp2
      go_loopw [23] (fun c wr => ∃ k : Nat, k ≤ d.affixes.length ∧ c = .int .i64 (k : Int) ∧ Hid (DerTo x.stems[i].uses d.affixes k) ∧ Below w1.heap.size w1 wr) (fun c _ => d.affixes.length - (intOf c).toNat)
      case atStart => exact ⟨0, by omega, rfl, Lib.hid DerTo.zero, Below.refl _ _⟩
      case round =>
        obtain ⟨k, hk, rfl, Hto, hbr⟩ := hrel
        have HBw := Lib.hid (HB1.out.trans (hbr.mono hz1))
        by_cases hlt : k < d.affixes.length
        · obtain ⟨b2, o2, rfl, e2, -⟩ := hds k hlt
          have c2 := (HBw.out.cell (cell_lt e2)).trans e2
          have c1 := cell_below hbr jD1
          have g1 := cell_below hbr jG1
          have f1' := cell_below hbr f1
          have HUr := Lib.hid (HU4.out.below HBw.out)
          have HDr := Lib.hid (HD.out.below HBw.out)
          have hfst := idx_first hlt
          have Hfst := Lib.hid hfst
          have HBr := Lib.hid hbr
          clear hds e2 hbr hfst
          cases hi1 : inB x.stems[i].uses d.affixes[k]
          · have Hno := Lib.hid (show derB x d = false from derB_no fun ⟨j, hj, h1, h2, h3⟩ => by
              have e : j = i := by have := Hi.out; omega
              subst e
              have := (h3 k hlt hlt).1
              rw [hi1] at this; cases this)
            go_wp2_with (first
              | (go_at_call 85; refine (containsS_any _ _ d.affixes[k] _ HUr.out).mono ?_; rintro e w2 ⟨rfl, rfl⟩; rw [hi1]))
            go_ret
            exact ⟨ret_bool Hno.out.symm, HBw.out⟩
          · cases hi2 : inB (d.affixes.take k) d.affixes[k]
            · have hix : idxI d.affixes d.affixes[k] = (k : Int) := Hfst.out.2 hi2
              have hq : ((k : Int) != (k : Int)) = false := by simp
              have Hn := Lib.hid (Hto.out.succ hlt hi1 hi2)
              go_wp2_with (first
                | (go_at_call 85; refine (containsS_any _ _ d.affixes[k] _ HUr.out).mono ?_; rintro e w2 ⟨rfl, rfl⟩; rw [hi1])
                | (go_at_call 86; refine (indexS_any _ _ d.affixes[k] _ HDr.out).mono ?_; rintro e w2 ⟨rfl, rfl⟩; rw [hix]))
              go_roundw
              case rel => exact ⟨k + 1, by omega, by go_num, Hn, HBr.out⟩
              case measure => simp [intOf]; omega
            · have hix : (idxI d.affixes d.affixes[k] != (k : Int)) = true := by
                rw [bne_iff_ne]
                intro e
                have := Hfst.out.1 e
                rw [hi2] at this; cases this
              have Hno := Lib.hid (show derB x d = false from derB_no fun ⟨j, hj, h1, h2, h3⟩ => by
                have e : j = i := by have := Hi.out; omega
                subst e
                have := (h3 k hlt hlt).2
                rw [hi2] at this; cases this)
              go_wp2_with (first
                | (go_at_call 85; refine (containsS_any _ _ d.affixes[k] _ HUr.out).mono ?_; rintro e w2 ⟨rfl, rfl⟩; rw [hi1])
                | (go_at_call 86; refine (indexS_any _ _ d.affixes[k] _ HDr.out).mono ?_; rintro e w2 ⟨rfl, rfl⟩))
              go_ret
              exact ⟨ret_bool Hno.out.symm, HBw.out⟩
        · obtain rfl : k = d.affixes.length := by omega
          have Hyes := Lib.hid (show derB x d = true from derB_yes ⟨i, hii, Hi.out, h2, Hto.out⟩)
          clear hds
          go_wp2
          go_ret
          exact ⟨ret_bool Hyes.out.symm, HBw.out⟩
    · have hd2 : decide ((2 : Int) < (d.affixes.length : Int)) = true := by rw [decide_eq_true_iff]; omega
      have Hno := Lib.hid (show derB x d = false from derB_no fun ⟨j, hj, h1, h3, h4⟩ => h2 h3)
      clear hds
      go_wp2
      go_ret
      exact ⟨ret_bool Hno.out.symm, HB1.out⟩
set_option maxHeartbeats 4000000 in
set_option maxRecDepth 100000 in
theorem implWordOf_any (v : Value) (x : GraD) (v2 : Value) (d : DerD) (w : World) (hv : GraR w v x) (hd : DerR w v2 d) (hM : MaxL w) :
    Calls Tryd.prog 16 #[v, v2] w fun e w' => e = .returned (.tuple #[.string (woV x d).1, .int .i64 (woV x d).2]) ∧ Below w.heap.size w w' := by
  have HV := Lib.hid hv
  have HDR := Lib.hid hd
  have HM := Lib.hid hM
  obtain ⟨s1, s2, rfl, ha, hs⟩ := hv
  obtain ⟨u, rfl, hdw, hdu⟩ := hd
  have hb0 : Below w.heap.size w ((w.alloc (.cells #[s1, s2] 31)).alloc (.cells #[.string d.stem, u] 41)) := ((Below.refl _ _).alloc (Nat.le_refl _) _).alloc (by simp) _
  have hG0 := (src_cell (i := 0) (v := s1) (heap_alloc2_old w (.cells #[s1, s2] 31) (.cells #[.string d.stem, u] 41)) rfl).1
  have hG1 := (src_cell (i := 1) (v := s2) (heap_alloc2_old w (.cells #[s1, s2] 31) (.cells #[.string d.stem, u] 41)) rfl).1
  have hD0 := (src_cell (i := 0) (v := .string d.stem) (heap_alloc2_new w (.cells #[s1, s2] 31) (.cells #[.string d.stem, u] 41)) rfl).1
  have hD1 := (src_cell (i := 1) (v := u) (heap_alloc2_new w (.cells #[s1, s2] 31) (.cells #[.string d.stem, u] 41)) rfl).1
  have HDU := Lib.hid hdu
  obtain ⟨a1, k1, rfl, -⟩ := ha.shape
  obtain ⟨a2, k2, rfl, -⟩ := hs.shape
  obtain ⟨da, dc, rfl, -⟩ := hdu.shape
  have HB0 := Lib.hid hb0
  clear ha hs hdu hb0 hM
  go_enter Tryd.func16, Tryd.ntmps16
  go_wp2_with fail
  refine (implValidGrammar_any _ x _ (HV.out.below HB0.out) (HM.out.below HB0.out)).mono ?_
  rintro e w1 ⟨rfl, hb1⟩
  have hD0 := cell_below hb1 hD0
  have hD1 := cell_below hb1 hD1
  have hG0 := cell_below hb1 hG0
  have hG1 := cell_below hb1 hG1
  have HB1 := Lib.hid (HB0.out.trans (hb1.mono HB0.out.size))
  clear hb1
  cases hok : graB x
  · have Hok := Lib.hid hok
    go_wp2
    go_ret2
    exact ⟨by rw [woV_bad Hok.out]; rfl, HB1.out⟩
  · have Hok := Lib.hid hok
    clear hok
    go_wp2_with fail
    refine (isDerivation_any _ x _ d _ (HV.out.below HB1.out) (HDR.out.below HB1.out)).mono ?_
    rintro e w2 ⟨rfl, hb2⟩
    have hD0 := cell_below hb2 hD0
    have hD1 := cell_below hb2 hD1
    have hG0 := cell_below hb2 hG0
    have hG1 := cell_below hb2 hG1
    have HB2 := Lib.hid (HB1.out.trans (hb2.mono HB1.out.size))
    clear hb2
    cases hder : derB x d
    · have Hder := Lib.hid hder
      go_wp2
      go_ret2
      exact ⟨by rw [woV_not Hok.out Hder.out]; rfl, HB2.out⟩
    · have Hder := Lib.hid hder
      have Hnm := Lib.hid (DerOk.names (graB_iff.1 Hok.out) (derB_iff.1 hder))
      have Hwo := Lib.hid (woV_yes Hok.out hder)
      clear hder
      go_wp2_with fail
      refine (applied_any _ x d.stem _ d.affixes _ (HV.out.below HB2.out) (graB_iff.1 Hok.out).1 Hnm.out.1 (HDU.out.below HB2.out) Hnm.out.2 (HM.out.below HB2.out)).mono ?_
      rintro e w3 ⟨hwp, hb3⟩
      unfold WordPost at hwp
      subst hwp
      have HB3 := Lib.hid (HB2.out.trans (hb3.mono HB2.out.size))
      clear hb3
      go_wp2
      go_ret2
      exact ⟨by rw [Hwo.out]; rfl, HB3.out⟩
end Go.Proofs.YtgefgdkejenhnaaDoor
