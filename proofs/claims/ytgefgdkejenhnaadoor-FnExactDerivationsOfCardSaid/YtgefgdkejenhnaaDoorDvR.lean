/- DerivationsOf of the reference. No condition but the readings. -/
import Derived.Test.YtgefgdkejenhnaaDoorDvS
import Derived.Test.YtgefgdkejenhnaaDoorDvQ
set_option linter.unusedSimpArgs false
namespace Go.Proofs.YtgefgdkejenhnaaDoor
open Go.RowKit
/-- The derivations among some that lead to s. -/
noncomputable def ledD (s : ByteArray) (l : List (StemD × ByteArray)) : List StemD := (l.filter fun d => d.2.toList == s.toList).map Prod.fst
theorem ledD_hit {s : ByteArray} (l : List (StemD × ByteArray)) (d : StemD) (t : ByteArray) (h : (t.toList == s.toList) = true) : ledD s (l ++ [(d, t)]) = ledD s l ++ [d] := by simp [ledD, List.filter_append, h]
theorem ledD_skip {s : ByteArray} (l : List (StemD × ByteArray)) (d : StemD) (t : ByteArray) (h : (t.toList == s.toList) = false) : ledD s (l ++ [(d, t)]) = ledD s l := by simp [ledD, List.filter_append, h]
theorem ledD_le (s : ByteArray) (l : List (StemD × ByteArray)) : (ledD s l).length ≤ l.length := by unfold ledD; rw [List.length_map]; exact List.length_filter_le _ _
theorem one_below (w : World) (a : Obj) : Below w.heap.size w (w.alloc a).drew := ((Below.refl _ _).alloc (Nat.le_refl _) a).drew
theorem one_first (w : World) (u v : Value) (t : TypeId) : (w.alloc (.cells #[u, v] t)).drew.cell? ⟨w.heap.size, 0, none⟩ = some u := cell_newi w #[u, v] t 0 u rfl
theorem one_second (w : World) (u v : Value) (t : TypeId) : (w.alloc (.cells #[u, v] t)).drew.cell? ⟨w.heap.size, 1, none⟩ = some v := cell_newi w #[u, v] t 1 v rfl
theorem cell_of_sameR {w w' : World} {b o : Nat} {u : Value} (h : w'.heap[b]? = w.heap[b]?) (hc : w.cell? ⟨b, o, none⟩ = some u) : w'.cell? ⟨b, o, none⟩ = some u := by
  rw [← hc]; simp only [World.cell?, h]
attribute [local irreducible] Calls
set_option maxHeartbeats 16000000 in
set_option maxRecDepth 100000 in
theorem specDerivationsOf_any (v : Value) (x : GraD) (s : ByteArray) (w : World) (hv : GraR w v x) (hs : s.size ≤ 1048576) (_hM : MaxL w) :
    Calls Tryd.prog 18 #[v, .string s] w fun e w' => ∃ v', e = .returned (.tuple #[v', .int .i64 (dofE x s)]) ∧ DersX w' w.heap.size w'.heap.size v' (dofV x s) ∧ Below w.heap.size w w' := by
  obtain ⟨s1, s2, rfl, ha, hst⟩ := hv
  obtain ⟨a1, k1, rfl, -, -, -⟩ := ha.shape
  obtain ⟨a2, k2, rfl, hl2, hk2, hcs2⟩ := hst.shape
  unfold maxLen at hk2
  have hb0 : Below w.heap.size w (w.alloc (.cells #[.slice a1 x.affixes.length k1, .slice a2 x.stems.length k2] 31)) := (Below.refl _ _).alloc (Nat.le_refl _) _
  have HB : Hid (GraBox (w.alloc (.cells #[.slice a1 x.affixes.length k1, .slice a2 x.stems.length k2] 31)) w.heap.size (.slice a1 x.affixes.length k1) (.slice a2 x.stems.length k2) x) := Lib.hid ⟨cell_newi w _ _ 0 _ rfl, cell_newi w _ _ 1 _ rfl, ha.below hb0, hst.below hb0⟩
  have hz0 : w.heap.size < (w.alloc (.cells #[.slice a1 x.affixes.length k1, .slice a2 x.stems.length k2] 31)).heap.size := by simp
  have HB0 := Lib.hid hb0
  have HC2 := Lib.hid hcs2
  clear ha hst hb0 hcs2
  cases hg : graB x
  · have Hg := Lib.hid (dof_no (s := s) hg)
    go_enter Tryd.func18, Tryd.ntmps18
    go_wp2_with fail
    refine (l04Ok_any _ _ _ x _ HB.out).mono ?_
    rw [hg]
    rintro e w1 ⟨rfl, q, hw1⟩
    have HBx : Hid (Below w.heap.size w w1) := Lib.hid (by rw [hw1]; exact below_drewN HB0.out q)
    have hz1 : w.heap.size < w1.heap.size := by rw [hw1]; exact hz0
    clear hw1
    go_wp2
    go_ret2
    exact ⟨_, by rw [Hg.out.2]; rfl, by rw [Hg.out.1]; exact DersX.nil _ hz1, HBx.out⟩
  have HOK := Lib.hid (graB_okQ hg)
  have Hg := Lib.hid hg
  have hn30 := (graB_okQ hg).2.2.2
  cases hl : isLong s
  · have HE := Lib.hid (dof_bad hg hl)
    go_enter Tryd.func18, Tryd.ntmps18
    go_wp2_with fail
    refine (l04Ok_any _ _ _ x _ HB.out).mono ?_
    rw [hg]
    rintro e w1 ⟨rfl, q, hw1⟩
    have HBx : Hid (Below w.heap.size w w1) := Lib.hid (by rw [hw1]; exact below_drewN HB0.out q)
    have hz1 : w.heap.size < w1.heap.size := by rw [hw1]; exact hz0
    clear hw1
    go_wp2_with fail
    refine (l05Long_any s _ (by unfold maxLen; omega)).mono ?_
    rw [hl]
    rintro e w2 ⟨rfl, rfl⟩
    go_wp2
    go_ret2
    exact ⟨_, by rw [HE.out.2]; rfl, by rw [HE.out.1]; exact DersX.nil _ hz1, HBx.out⟩
  have HE := Lib.hid (dof_yes hg hl)
  go_enter Tryd.func18, Tryd.ntmps18
  go_wp2_with fail
  refine (l04Ok_any _ _ _ x _ HB.out).mono ?_
  rw [hg]
  rintro e w1 ⟨rfl, q, hw1⟩
  have HB1 : Hid (GraBox w1 w.heap.size (.slice a1 x.affixes.length k1) (.slice a2 x.stems.length k2) x) := Lib.hid (by rw [hw1]; exact HB.out.drewN q)
  have HBx : Hid (Below w.heap.size w w1) := Lib.hid (by rw [hw1]; exact below_drewN HB0.out q)
  have hz1 : w.heap.size < w1.heap.size := by rw [hw1]; exact hz0
  clear hw1 HB hg
  go_wp2_with fail
  refine (l05Long_any s _ (by unfold maxLen; omega)).mono ?_
  rw [hl]
  rintro e w1' ⟨rfl, rfl⟩
  have HD0 := Lib.hid (DerL.made w1 w1.heap.size (Nat.le_refl _))
  have HBf := Lib.hid ((Below.refl w1.heap.size w1).alloc (Nat.le_refl _) (.cells #[] 41))
  clear hl hz0
  go_wp2
  go_loopw [6, 7] (fun o i wr => ∃ (j g cap : Nat) (LL : List (StemD × Nat)), j ≤ x.stems.length ∧ i = .int .i64 (j : Int) ∧ o = .slice (some ⟨g, 0, none⟩) LL.length cap ∧ Hid (DerL wr w1.heap.size (.slice (some ⟨g, 0, none⟩) LL.length cap) LL) ∧ Hid (LL.map Prod.fst = ledD s (derTo x j 0)) ∧ Hid (∀ d ∈ LL, w1.heap.size ≤ d.2) ∧ Hid (Below w1.heap.size w1 wr)) (fun _ i _ => x.stems.length - (intOf i).toNat)
  case atStart => exact ⟨0, w1.heap.size, 0, [], by omega, rfl, rfl, HD0, Lib.hid (by rw [derTo_zero]; rfl), Lib.hid (by simp), HBf⟩
  case round =>
    clear HD0 HBf
    obtain ⟨i, gg, cap, LL, hi, rfl, rfl, HD, HLL, HLB, HB⟩ := hrel
    have HX := Lib.hid (HB1.out.below HB.out)
    have hg1 := HX.out.c1
    have HBw := Lib.hid (HBx.out.trans (HB.out.mono HBx.out.size))
    by_cases hlt : i < x.stems.length
    · obtain ⟨b2, o2, u, rfl, e0, e1, hwl, hu⟩ := HC2.out i hlt
      obtain ⟨ua, uc, rfl, hul, huc, -⟩ := hu.shape
      obtain ⟨hu12, huh, hund⟩ := stem_uses HOK.out hlt
      have hb2w : b2 < w.heap.size := cell_lt e0
      have e0 := cell_below HBw.out e0
      have e1 := cell_below HBw.out e1
      have HU := Lib.hid (hu.below HBw.out)
      unfold maxLen at huc
      clear hu
      go_wp2_with fail
      refine (l04Ways_any _ x.stems[i].uses _ HU.out hu12 hund).mono ?_
      rintro e w3 ⟨g1, c1, q1, rfl, hw3, hb3⟩
      obtain ⟨ns, hns⟩ : ∃ ns, ns = waysL x.stems[i].uses := ⟨_, rfl⟩
      rw [← hns] at hw3 ⊢
      have HNS := Lib.hid hns
      have hns3 : ns.length ≤ 300 := by rw [hns]; exact waysTo_le hu12 _ _
      have HW3 := Lib.hid hw3
      have HD3 := Lib.hid (HD.out.below hb3)
      have HB3 := Lib.hid (HB.out.trans (hb3.mono HB.out.size))
      have hgB := World.ownsRow.lt HD.out.own gg rfl
      have HLt := Lib.hid HD.out.lt
      have hg1B := World.ownsRow.lt hw3.own g1 rfl
      obtain ⟨N, hN⟩ : ∃ N, N = wr.heap.size := ⟨_, rfl⟩
      have hN1 : w1.heap.size ≤ N := by rw [hN]; exact HB.out.size
      have hN3 : N ≤ w3.heap.size := by rw [hN]; exact hb3.size
      rw [← hN] at hgB HW3 hg1B HLt
      clear hw3 hb3 hns HU e1 hund e0 hg1 hN
      go_wp2
      go_loopw [6, 9] (fun o i' wr2 => ∃ (k g cap : Nat) (LL : List (StemD × Nat)), k ≤ ns.length ∧ i' = .int .i64 (k : Int) ∧ o = .slice (some ⟨g, 0, none⟩) LL.length cap ∧ Hid (DerL wr2 w1.heap.size (.slice (some ⟨g, 0, none⟩) LL.length cap) LL) ∧ Hid (LL.map Prod.fst = ledD s (derTo x i k)) ∧ Hid (∀ d ∈ LL, w1.heap.size ≤ d.2 ∧ (d.2 < N ∨ ∃ m, m < k ∧ d.2 = q1 m)) ∧ Hid (Below w1.heap.size w1 wr2) ∧ Hid (WaysW wr2 N (.slice (some ⟨g1, 0, none⟩) ns.length c1) q1 ns) ∧ (g < N ∨ w3.heap.size ≤ g) ∧ w3.heap.size ≤ wr2.heap.size) (fun _ i' _ => ns.length - (intOf i').toNat)
      case atStart => exact ⟨0, gg, cap, LL, by omega, rfl, rfl, HD3, HLL, Lib.hid (fun d hd => ⟨HLB.out d hd, .inl (HLt.out d hd)⟩), HB3, HW3, .inl hgB.2, Nat.le_refl _⟩
      case round =>
        have HQ := Lib.hid HW3.out.inn
        clear HD HLL HLB HB HX HBw HD3 HB3 HLt hgB HW3
        obtain ⟨k, g, cap, LL, hk, rfl, rfl, HD, HLL, HLB, HB, HW, hgi, hz3⟩ := hrel
        have HX := Lib.hid (HB1.out.below HB.out)
        have hg1 := HX.out.c1
        have HBw := Lib.hid (HBx.out.trans (HB.out.mono HBx.out.size))
        by_cases hkl : k < ns.length
        · obtain ⟨b2', o2', u', e2', e0, -, -, -⟩ := HC2.out i hlt
          cases e2'
          have e0 := cell_below HBw.out e0
          obtain ⟨gx, ex, hcx⟩ := HW.out.cell hkl
          obtain rfl : g1 = gx := by injection ex with ex; injection ex
          have hmem := waysTo_mem (u := x.stems[i].uses) (i := x.stems[i].uses.length) (k := 0) (x := ns[k]) (by have h : ∀ y ∈ ns, y ∈ waysL x.stems[i].uses := fun y hy => HNS.out ▸ hy; exact h _ (List.getElem_mem _))
          have HST := Lib.hid ((HW.out.inn.strs hkl (by have := hmem.1; unfold maxLen; omega) (fun s hs => by
            obtain ⟨j, hj, he, -⟩ := hasB_at (huh s (hmem.2 s hs))
            rw [← he]
            exact (HX.out.a.2 x.affixes[j] (List.getElem_mem _)).n)).read)
          have HIN := Lib.hid (fun n hn => huh n (hmem.2 n hn))
          have hlw : isLong x.stems[i].word = true := by
            have := HOK.out.2.1.1 i hlt
            simp only [stemB, Bool.and_eq_true] at this
            exact this.2
          have HLW := Lib.hid hlw
          have hkI : (k : Int) < (ns.length : Int) := by omega
          have hiI : (i : Int) < (x.stems.length : Int) := by omega
          have HKL : Hid (k < (waysL x.stems[i].uses).length) := Lib.hid (by rw [← HNS.out]; exact hkl)
          obtain ⟨t, ht⟩ : ∃ t, (wordV x.affixes x.stems[i].word ns[k]).1 = t := ⟨_, rfl⟩
          obtain ⟨cd, hcd⟩ : ∃ c, (wordV x.affixes x.stems[i].word ns[k]).2 = c := ⟨_, rfl⟩
          have HTC := Lib.hid (And.intro ht hcd)
          clear ex hmem hlw ht hcd
          go_wp2
          go_region_held3 (fun w' => w'.cell? ⟨w.heap.size, 1, none⟩ = some (.slice (some ⟨b2, o2, none⟩) x.stems.length k2) ∧ w'.cell? ⟨b2, o2 + i * 2, none⟩ = some (.string x.stems[i].word) ∧ w'.cell? ⟨g1, k, none⟩ = some (.slice (some ⟨q1 k, 0, none⟩) ns[k].length ns[k].length) ∧ Below wr.heap.size wr w')
            (first | exact ⟨hg1, e0, hcx, (Below.refl _ _).drew⟩ | exact keepC hbk (by assumption) fun h => keepC hbk h fun h => keepC hbk h fun h => keepE hbk h)
            (first
              | (go_at_call 41; refine (l04Word_is HTC.out.1 HTC.out.2 _ ((fun (h : _ ∧ _ ∧ _ ∧ Below wr.heap.size wr _) => HX.out.below h.2.2.2) (by assumption)) HOK.out HLW.out ((fun (h : _ ∧ _ ∧ _ ∧ Below wr.heap.size wr _) => HST.out.below h.2.2.2) (by assumption)) HIN.out).mono ?_; rintro e w4 ⟨rfl, hbk⟩))
          have hb4 := (by assumption : _ ∧ _ ∧ _ ∧ Below wr.heap.size wr w4).2.2.2
          have HB4 := Lib.hid (HB.out.trans (hb4.mono HB.out.size))
          have HD4 := Lib.hid (HD.out.below hb4)
          have HW4 := Lib.hid (HW.out.below hb4)
          have hg1 := cell_below hb4 hg1
          have e0 := cell_below hb4 e0
          have hcx := cell_below hb4 hcx
          have hz4 : w3.heap.size ≤ w4.heap.size := Nat.le_trans hz3 hb4.size
          clear hb4 hbk HX HBw HST
          by_cases hz : cd = 0
          · subst hz
            cases hts : (t.toList == s.toList)
            · have HL4 : Hid (LL.map Prod.fst = ledD s (derTo x i (k + 1))) := Lib.hid (by
                have e1 := HTC.out.1
                have e2 := HTC.out.2
                have hns := HNS.out
                subst hns
                rw [derTo_hit hlt HKL.out e2, e1, ledD_skip _ _ _ hts]
                exact HLL.out)
              go_wp2
              go_roundw
              case rel => exact ⟨k + 1, g, cap, LL, by omega, by go_num, rfl, HD4, HL4, Lib.hid (fun d hd => ⟨(HLB.out d hd).1, by
                rcases (HLB.out d hd).2 with h | ⟨m, hm, h⟩
                · exact .inl h
                · exact .inr ⟨m, by omega, h⟩⟩), HB4, HW4, hgi, hz4⟩
              case measure => simp [intOf]; omega
            · have hqk := HQ.out.low k hkl
              have hqk5 := HQ.out.lt hkl
              have hblk := HW4.out.inn.blk k hkl
              have hLl : LL.length ≤ 100000 := by
                have h1 := congrArg List.length HLL.out
                rw [List.length_map] at h1
                have h2 := derTo_le HOK.out i k
                have h3 := ledD_le s (derTo x i k)
                omega
              have hbL : ∀ y ∈ LL, y.2 ≠ q1 k := fun y hy e => by
                rcases (HLB.out y hy).2 with h | ⟨m, hm, h⟩
                · omega
                · have := HQ.out.inj m k (by omega) hkl (by rw [← h, e]); omega
              have hbv : (Value.slice (some ⟨g, 0, none⟩) LL.length cap).ownBlock ≠ some (q1 k) := fun e => by
                have : g = q1 k := Option.some.inj e
                omega
              have hbw4 : w1.heap.size ≤ w4.heap.size := HB4.out.size
              have hgw4 := (World.ownsRow.lt HD4.out.own g rfl)
              have hg1lt : g1 < w4.heap.size := World.block_lt_of_cell? _ _ hcx
              have hg1g : g1 ≠ g := by omega
              have HBL := Lib.hid (And.intro hbL hbv)
              have hz1b : w.heap.size < w1.heap.size := hz1
              have hdc : (([] : List (StemD × Nat)).length = 0) := rfl
              clear hbL hbv hdc
              go_wp2
              go_region_held3 (fun w' => w'.cell? ⟨w.heap.size, 1, none⟩ = some (.slice (some ⟨b2, o2, none⟩) x.stems.length k2) ∧ w'.cell? ⟨b2, o2 + i * 2, none⟩ = some (.string x.stems[i].word) ∧ w'.cell? ⟨g1, k, none⟩ = some (.slice (some ⟨q1 k, 0, none⟩) ns[k].length ns[k].length))
                (first | exact ⟨hg1, e0, hcx⟩ | exact ⟨cell_alloc _ hg1, cell_alloc _ e0, cell_alloc _ hcx⟩ | exact ⟨(hb5.cell (p := ⟨w.heap.size, 1, none⟩) hz1b).trans hg1, (hb5.cell (p := ⟨b2, o2 + i * 2, none⟩) (Nat.lt_trans hb2w hz1b)).trans e0, cell_of_sameR (hgr5.block g1 hg1lt (fun e => hg1g (Option.some.inj e))) hcx⟩)
                (first
                  | (refine step_der (w := w4) ?_ (.tmp 59) (.tmp 71) ?_ w1.heap.size (.slice (some ⟨g, 0, none⟩) LL.length cap) LL ?_ HD4.out (one_below _ _) ⟨x.stems[i].word, ns[k]⟩ (q1 k) hblk HBL.out.1 HBL.out.2 ns[k].length rfl w4.heap.size ?_ (one_first _ _ _ _) (one_second _ _ _ _) hLl hbw4 ?_; rfl; rfl; rfl; rfl; intro g5 cap5 w5 hd5 hb5 hgr5 hgl5)
                  | fail)
              have hgi5 : g5 < N ∨ w3.heap.size ≤ g5 := by
                rcases hgl5 with h | h
                · have : g5 = g := Option.some.inj h
                  omega
                · omega
              have HW5 : Hid (WaysW w5 N (.slice (some ⟨g1, 0, none⟩) ns.length c1) q1 ns) := Lib.hid (HW4.out.keep fun k' hk' hor => hgr5.block k' hk' (fun e => by
                have e : k' = g := Option.some.inj e
                rcases hor with h | ⟨m, hm, h⟩
                · have : g1 = k' := Option.some.inj h
                  omega
                · have h1 := HQ.out.low m hm
                  have h2 := HQ.out.lt hm
                  omega))
              have HD5 : Hid (DerL w5 w1.heap.size (.slice (some ⟨g5, 0, none⟩) (LL ++ [((⟨x.stems[i].word, ns[k]⟩ : StemD), q1 k)]).length cap5) (LL ++ [((⟨x.stems[i].word, ns[k]⟩ : StemD), q1 k)])) := Lib.hid (by rw [List.length_append]; exact hd5)
              have HL5 : Hid ((LL ++ [((⟨x.stems[i].word, ns[k]⟩ : StemD), q1 k)]).map Prod.fst = ledD s (derTo x i (k + 1))) := Lib.hid (by
                have e1 := HTC.out.1
                have e2 := HTC.out.2
                have hns := HNS.out
                subst hns
                rw [derTo_hit hlt HKL.out e2, e1, ledD_hit _ _ _ hts, List.map_append, HLL.out]
                rfl)
              have HB5 := Lib.hid (HB4.out.trans hb5)
              have hz5 : w3.heap.size ≤ w5.heap.size := Nat.le_trans hz4 hgr5.size
              clear hd5 hb5 hgr5 hgl5 hg1 e0 hcx
              go_wp2
              go_roundw
              case rel => exact ⟨k + 1, g5, cap5, _, by omega, by go_num, by rw [List.length_append]; rfl, HD5, HL5, Lib.hid (fun d hd => by
                rcases List.mem_append.1 hd with h | h
                · exact ⟨(HLB.out d h).1, by
                    rcases (HLB.out d h).2 with h | ⟨m, hm, h⟩
                    · exact .inl h
                    · exact .inr ⟨m, by omega, h⟩⟩
                · rw [List.mem_singleton.1 h]
                  exact ⟨by omega, .inr ⟨k, by omega, rfl⟩⟩), HB5, HW5, hgi5, hz5⟩
              case measure => simp [intOf]; omega
          · have hzq : (cd == 0) = false := by rw [beq_eq_false_iff_ne]; exact hz
            have HL4 : Hid (LL.map Prod.fst = ledD s (derTo x i (k + 1))) := Lib.hid (by
              have e2 := HTC.out.2
              have hns := HNS.out
              subst hns
              rw [derTo_skip hlt HKL.out (by rw [e2]; exact hz)]
              exact HLL.out)
            go_wp2
            go_roundw
            case rel => exact ⟨k + 1, g, cap, LL, by omega, by go_num, rfl, HD4, HL4, Lib.hid (fun d hd => ⟨(HLB.out d hd).1, by
              rcases (HLB.out d hd).2 with h | ⟨m, hm, h⟩
              · exact .inl h
              · exact .inr ⟨m, by omega, h⟩⟩), HB4, HW4, hgi, hz4⟩
            case measure => simp [intOf]; omega
        · obtain rfl : k = ns.length := by omega
          have HL4 : Hid (LL.map Prod.fst = ledD s (derTo x (i + 1) 0)) := Lib.hid (by rw [derTo_next hlt, ← HNS.out]; exact HLL.out)
          go_wp2
          go_roundw
          case rel => exact ⟨i + 1, g, cap, LL, by omega, by go_num, rfl, HD, HL4, Lib.hid (fun d hd => (HLB.out d hd).1), HB⟩
          case measure => simp [intOf]; omega
    · obtain rfl : i = x.stems.length := by omega
      have HSz : Hid (∀ d ∈ LL, d.1.word.size ≤ maxLen ∧ d.1.uses.length ≤ maxLen ∧ ∀ y ∈ d.1.uses, y.size ≤ maxLen) := Lib.hid (fun d hd => by
        have hm : d.1 ∈ LL.map Prod.fst := List.mem_map.2 ⟨d, hd, rfl⟩
        rw [HLL.out] at hm
        obtain ⟨e, he, h5⟩ := List.mem_map.1 hm
        obtain ⟨h1, h2, h3⟩ := derL_sizes HOK.out e (List.mem_filter.1 he).1
        rw [h5] at h1 h2 h3
        have h4 : d.1.word.size ≤ 12 := by
          simp only [isLong, isWord, inI, Bool.and_eq_true, decide_eq_true_eq] at h1; omega
        refine ⟨by unfold maxLen; omega, by unfold maxLen; omega, fun y hy => ?_⟩
        have := h3 y hy
        unfold maxLen; omega)
      go_wp2
      go_ret2
      refine ⟨_, by rw [HE.out.2]; rfl, ?_, HBw.out⟩
      have hd := HD.out.dersX (lo := w.heap.size) HSz.out HBx.out.size (fun d hd => Nat.le_trans HBx.out.size (HLB.out d hd))
      rw [HLL.out] at hd
      rw [HE.out.1]
      exact hd
end Go.Proofs.YtgefgdkejenhnaaDoor
