/- Two drawn grammars, one of them a copy that is seldom bent: DrawSameGrammar. Condition: at most 5000 bytes. -/
import Derived.Test.YtndfhmphlomeiaaGreatDoorQd
import Derived.Test.YtndfhmphlomeiaaGreatDoorK4
import Derived.Test.YtndfhmphlomeiaaGreatDoorK2
import Derived.Deep.CutBlock
set_option linter.unusedSimpArgs false
namespace Go.Proofs.YtndfhmphlomeiaaGreatDoor
open Go.RowKit
attribute [local irreducible] Calls
set_option maxHeartbeats 16000000 in
set_option maxRecDepth 100000 in
theorem drawSame_any (v : Value) (bs : List UInt8) (w : World) (hv : BytesR w v bs) (hl : bs.length ≤ 5000) :
    Calls Tryz.prog 10 #[v] w fun e w' => ∃ v1 v2 u1 u2 : Value, e = .returned (.tuple #[.agg #[v1, v2], .agg #[u1, u2]]) ∧ TwoG w' v1 v2 u1 u2 ∧ Below w.heap.size w w' := by
  obtain ⟨pa, pc, rfl, -, -⟩ := hv.shape
  have hb0 : Below w.heap.size w ((w.alloc (.cells #[.slice none 0 0, .slice none 0 0] 27)).alloc (.cells #[.slice none 0 0, .slice none 0 0] 27)) := (one_belowQ w (.cells #[.slice none 0 0, .slice none 0 0] 27)).trans ((one_belowQ (w.alloc (.cells #[.slice none 0 0, .slice none 0 0] 27)) (.cells #[.slice none 0 0, .slice none 0 0] 27)).mono (by simp))
  have rA := heap_alloc2_old w (.cells #[.slice none 0 0, .slice none 0 0] 27) (.cells #[.slice none 0 0, .slice none 0 0] 27)
  have rB := heap_alloc2_new w (.cells #[.slice none 0 0, .slice none 0 0] 27) (.cells #[.slice none 0 0, .slice none 0 0] 27)
  have hz0 : ((w.alloc (.cells #[.slice none 0 0, .slice none 0 0] 27)).alloc (.cells #[.slice none 0 0, .slice none 0 0] 27)).heap.size = w.heap.size + 2 := by simp
  have HV := Lib.hid (hv.below hb0)
  go_enter Tryz.func10, Tryz.ntmps10
  go_wp2_with fail
  refine (l00From_any _ bs _ HV.out hl).mono ?_
  rintro e w1 ⟨rfl, hs1, hb1⟩
  have HS1 := Lib.hid hs1
  rw [hz0] at HS1
  have hz1 := hb1.size
  rw [hz0] at hz1
  have HB1 := Lib.hid (hb0.trans (hb1.mono (by omega)))
  have HR1 := Lib.hid ((hb1.block w.heap.size (by omega)).trans rA)
  have HR2 := Lib.hid ((hb1.block (w.heap.size + 1) (by omega)).trans rB)
  clear hs1 hb1 hb0 rA rB hv HV
  obtain ⟨g, hgE⟩ : ∃ g, g = w.heap.size + 2 := ⟨_, rfl⟩
  rw [← hgE] at HS1
  have hg1 := HS1.out.lt
  have hg2 : w.heap.size + 2 ≤ g := by omega
  have HgE := Lib.hid hgE
  clear hgE
  go_wp2_with fail
  rw [show w.heap.size + 1 + 1 = g from HgE.out.symm]
  refine (l04Draw_any g bs 0 w1 HS1.out (by omega)).mono ?_
  rintro e w2 ⟨v1, v2, rfl, ⟨x, us, k2, hg2x, hS2, hxa, hxs, hk2, hs2⟩, hkk2⟩
  have hz2 := hkk2.size
  obtain ⟨a1, c1, a2, c2, e1, e2⟩ := hg2x.shape
  subst e1 e2
  have hbA := one_belowQ w2 (.cells #[(.slice a1 x.affixes.length c1), (.slice a2 x.stems.length c2)] 27)
  have hzA : (w2.alloc (.cells #[(.slice a1 x.affixes.length c1), (.slice a2 x.stems.length c2)] 27)).heap.size = w2.heap.size + 1 := by simp
  obtain ⟨ga, hgaE⟩ : ∃ ga, ga = w2.heap.size := ⟨_, rfl⟩
  have HX5 : Hid (BoxG (w2.alloc (.cells #[(.slice a1 x.affixes.length c1), (.slice a2 x.stems.length c2)] 27)) ga (.slice a1 x.affixes.length c1) (.slice a2 x.stems.length c2)) := Lib.hid (by rw [hgaE]; exact heap_alloc_new w2 _)
  have HG5 : Hid (GraW (w2.alloc (.cells #[(.slice a1 x.affixes.length c1), (.slice a2 x.stems.length c2)] 27)) (g + 1) ga (.agg #[(.slice a1 x.affixes.length c1), (.slice a2 x.stems.length c2)]) x) := Lib.hid (((hg2x.graW hS2.n).below hbA).mono (by omega) (by omega))
  have HS5 := Lib.hid (hs2.below hbA)
  have HNx := Lib.hid hS2.n
  have HU50 : Hid (∀ s ∈ x.stems, s.uses.length ≤ 50) := Lib.hid fun s hs => by obtain ⟨j, hj, rfl⟩ := List.getElem_of_mem hs; have := (hS2.sts j hj).u; omega
  have HB5 := Lib.hid ((HB1.out.trans (hkk2.below (by omega) (by omega))).trans (hbA.mono (by omega)))
  have HR5 := Lib.hid ((hbA.block _ (by omega)).trans ((hkk2.block _ (by omega) (.inl (by omega))).trans HR1.out))
  have HQ5 := Lib.hid ((hbA.block _ (by omega)).trans ((hkk2.block _ (by omega) (.inl (by omega))).trans HR2.out))
  have hga : g + 1 ≤ ga := by omega
  rw [← hgaE] at hzA
  clear hg2x hS2 hs2 hkk2 HR1 HR2 HB1 HS1 hbA hz0
  go_upto_region 3 with fail
  rw [← hgaE]
  clear hgaE
  generalize w2.alloc (.cells #[(.slice a1 x.affixes.length c1), (.slice a2 x.stems.length c2)] 27) = w5 at HX5 HG5 HS5 HB5 HR5 HQ5 hzA ⊢
  have HU12 : Hid (∀ s ∈ x.stems, s.uses.length ≤ 50) := HU50
  have hzB : ga + 1 ≤ w5.heap.size := by omega
  have HzA := Lib.hid hzA
  clear hzA
  obtain ⟨s1, s2, e, hA5, us0, hu0, hS5, hus0⟩ := HG5.out
  injection e with e
  simp only [Array.mk.injEq, List.cons.injEq, and_true] at e
  obtain ⟨e1, e2⟩ := e
  subst e1 e2
  have HRA := Lib.hid hA5.1.read
  have HRS := Lib.hid hS5.read
  have HUS := Lib.hid hus0
  have HON : Hid (∀ u ∈ us0, ∃ a n c, u = .slice a n c) := Lib.hid fun u hu => by obtain ⟨j, hj, rfl⟩ := List.getElem_of_mem hu; obtain ⟨-, ⟨-, a, c, e, -⟩, -⟩ := hus0 j (by omega) hj; exact ⟨a, _, c, e⟩
  clear hA5 hS5 hus0
  obtain ⟨x5, y5⟩ := HX5.out.c0
  obtain ⟨x6, y6⟩ := HX5.out.c1
  go_cut [6] (fun s6 wz => ∃ bx : Nat, s6 = .pointer (some ⟨bx, 0, none⟩) ∧ CopyAt w5 wz g ga bx x us0)
  case first =>
    refine wp_region_held_drew (S := (fun w' => w'.cell? ⟨ga, 0, none⟩ = some (.slice a1 x.affixes.length c1) ∧ w'.cell? ⟨ga, 1, none⟩ = some (.slice a2 x.stems.length c2))) (by kernel_rfl) ?_ (fun hHeld => ?_)
    · exact ⟨x5, x6⟩
    refine wpAnyH_take (i := 1) (v := ?v1) rfl (by kernel_rfl) (by kernel_rfl) (by kernel_rfl) (fun _ _ _ h => h) (Or.inl ⟨by kernel_rfl, ?hy1⟩) (by assumption) ?_
    case hy1 => (intro w9 hS9; (try dsimp only at hS9); go_simp; (try with_reducible rfl))
    try simp only [Act.put, List.getElem_toArray, List.getElem_cons_succ, List.getElem_cons_zero, List.setIfInBounds_toArray, List.set_cons_zero, List.set_cons_succ]
    refine wpAnyH_take (i := 2) (v := ?v2) rfl (by kernel_rfl) (by kernel_rfl) (by kernel_rfl) (fun _ _ _ h => h) (Or.inl ⟨by kernel_rfl, ?hy2⟩) (by assumption) ?_
    case hy2 => (intro w9 hS9; (try dsimp only at hS9); go_simp; (try with_reducible rfl))
    try simp only [Act.put, List.getElem_toArray, List.getElem_cons_succ, List.getElem_cons_zero, List.setIfInBounds_toArray, List.set_cons_zero, List.set_cons_succ]
    refine wpAnyH_take (i := 5) (v := ?v3) rfl (by kernel_rfl) (by kernel_rfl) (by kernel_rfl) (fun _ _ _ h => h) (Or.inl ⟨by kernel_rfl, ?hy3⟩) (by assumption) ?_
    case hy3 => (intro w9 hS9; (try dsimp only at hS9); go_simp; (try with_reducible rfl))
    try simp only [Act.put, List.getElem_toArray, List.getElem_cons_succ, List.getElem_cons_zero, List.setIfInBounds_toArray, List.set_cons_zero, List.set_cons_succ]
    refine wpAnyH_take (i := 6) (v := ?v4) rfl (by kernel_rfl) (by kernel_rfl) (by kernel_rfl) (fun _ _ _ h => h) (Or.inl ⟨by kernel_rfl, ?hy4⟩) (by assumption) ?_
    case hy4 => (intro w9 hS9; (try dsimp only at hS9); go_simp; (try with_reducible rfl))
    try simp only [Act.put, List.getElem_toArray, List.getElem_cons_succ, List.getElem_cons_zero, List.setIfInBounds_toArray, List.set_cons_zero, List.set_cons_succ]
    have HB0 : Hid (Below w5.heap.size w5 w5.drew) := Lib.hid (Below.refl w5.heap.size w5).drew
    refine wpAnyH_ready (rs := [0, 4, 9]) (by kernel_rfl) (by simp) ?_
    refine AllReadyH.cons rfl (fun K9 hK9 => ?_) (AllReadyH.cons rfl (fun K9 hK9 => ?_) (AllReadyH.cons rfl (fun K9 hK9 => ?_) (AllReadyH.nil)))
    · rw [if_pos (by rfl)]
      have HB1 := Lib.hid (HB0.out.trans ((one_belowQ w5.drew (.cells #[] 51)).mono HB0.out.size))
      have HE1 : Hid (OwnA (w5.drew.alloc (.cells #[] 51)) w5.heap.size (.slice (some ⟨w5.heap.size, 0, none⟩) 0 0) 0 []) := Lib.hid (by have h : OwnA (w5.drew.alloc (.cells #[] 51)) w5.heap.size _ 0 [] := World.ownsRow_made (size := 5) (e := 51) (base := w5.heap.size) w5.drew #[] 0 HB0.out.size (by unfold maxLen; omega) (by simp); simpa using h)
      go_simp
      refine hK9.out _ _ (⟨cell_below HB1.out x5, cell_below HB1.out x6⟩) (fun hHd1 => ?_)
      clear hK9 K9
      try simp only [Act.put, List.getElem_toArray, List.getElem_cons_succ, List.getElem_cons_zero, List.setIfInBounds_toArray, List.set_cons_zero, List.set_cons_succ]
      refine wpAnyH_ready (rs := [3, 4, 9]) (by kernel_rfl) (by simp) ?_
      refine AllReadyH.cons rfl (fun K9 hK9 => ?_) (AllReadyH.cons rfl (fun K9 hK9 => ?_) (AllReadyH.cons rfl (fun K9 hK9 => ?_) (AllReadyH.nil)))
      · refine step_copy ?_ (.tmp 11) (.tmp 13) 24 ?_ w5.heap.size 51 (.agg #[.string ⟨#[]⟩, .bool false, .string ⟨#[]⟩, .string ⟨#[]⟩, .string ⟨#[]⟩]) 5 72 Tryz.underlying24 infoAffS rfl (by decide) (w5.heap.size) 0 0 [] ?_ HE1.out a1 x.affixes.length c1 (x.affixes.flatMap affL) ?_ (HRA.out.below HB1.out) (affs_oneQ _) (by omega) (by decide) HB1.out.size ?_; rfl; rfl; rfl; rfl
        intro gA cA wa3 how hgr hloc
        simp only [Nat.zero_add, List.nil_append] at how
        simp only [Nat.zero_add]
        have hzz : w5.heap.size + 1 ≤ wa3.heap.size := by have h := hgr.size; simpa using h
        have hlo : gA = w5.heap.size ∨ gA = w5.heap.size + 1 := hloc.imp id (fun h => by simpa using h)
        have HA : Hid (OwnA wa3 w5.heap.size (.slice (some ⟨gA, 0, none⟩) x.affixes.length cA) x.affixes.length (x.affixes.flatMap affL)) := Lib.hid how
        have hgAlt := HA.out.lt
        have hgr : ((w5.drew.alloc (.cells #[] 51))).grownBy wa3 (some (w5.heap.size)) := hgr
        have HB2 := Lib.hid (HB1.out.grown hgr HB1.out.size (fun q hq => by have h : w5.heap.size = q := Option.some.inj hq; omega))
        refine hK9.out _ _ (⟨cell_below HB2.out x5, cell_below HB2.out x6⟩) (fun hHd2 => ?_)
        clear hK9 K9
        try simp only [Act.put, List.getElem_toArray, List.getElem_cons_succ, List.getElem_cons_zero, List.setIfInBounds_toArray, List.set_cons_zero, List.set_cons_succ]
        refine wpAnyH_ready (rs := [4, 9]) (by kernel_rfl) (by simp) ?_
        refine AllReadyH.cons rfl (fun K9 hK9 => ?_) (AllReadyH.cons rfl (fun K9 hK9 => ?_) (AllReadyH.nil))
        · rw [if_pos (by rfl)]
          have HB3 := Lib.hid (HB2.out.trans ((one_belowQ wa3 (.cells #[] 59)).mono HB2.out.size))
          have HA := Lib.hid (HA.out.below (one_belowQ wa3 (.cells #[] 59)))
          have HE2 : Hid (OwnT (wa3.alloc (.cells #[] 59)) w5.heap.size (.slice (some ⟨wa3.heap.size, 0, none⟩) 0 0) 0 []) := Lib.hid (by have h : OwnT (wa3.alloc (.cells #[] 59)) w5.heap.size _ 0 [] := World.ownsRow_made (size := 2) (e := 59) (base := w5.heap.size) wa3 #[] 0 HB2.out.size (by unfold maxLen; omega) (by simp); simpa using h)
          go_simp
          refine hK9.out _ _ (⟨cell_below HB3.out x5, cell_below HB3.out x6⟩) (fun hHd3 => ?_)
          clear hK9 K9
          try simp only [Act.put, List.getElem_toArray, List.getElem_cons_succ, List.getElem_cons_zero, List.setIfInBounds_toArray, List.set_cons_zero, List.set_cons_succ]
          refine wpAnyH_ready (rs := [7, 9]) (by kernel_rfl) (by simp) ?_
          refine AllReadyH.cons rfl (fun K9 hK9 => ?_) (AllReadyH.cons rfl (fun K9 hK9 => ?_) (AllReadyH.nil))
          · refine step_copy ?_ (.tmp 15) (.tmp 17) 25 ?_ w5.heap.size 59 (.agg #[.string ⟨#[]⟩, .slice none 0 0]) 2 40 Tryz.underlying25 infoStmS rfl (by decide) (wa3.heap.size) 0 0 [] ?_ HE2.out a2 x.stems.length c2 ((x.stems.zip us0).flatMap stemL) ?_ (HRS.out.below HB3.out) (stems_oneQ _ _ HON.out) (by omega) (by decide) HB3.out.size ?_; rfl; rfl; rfl; rfl
            intro gB cB wa7 how hgr hloc
            simp only [Nat.zero_add, List.nil_append] at how
            simp only [Nat.zero_add]
            have hzz : wa3.heap.size + 1 ≤ wa7.heap.size := by have h := hgr.size; simpa using h
            have hlo : gB = wa3.heap.size ∨ gB = wa3.heap.size + 1 := hloc.imp id (fun h => by simpa using h)
            have HS : Hid (OwnT wa7 w5.heap.size (.slice (some ⟨gB, 0, none⟩) x.stems.length cB) x.stems.length ((x.stems.zip us0).flatMap stemL)) := Lib.hid how
            have hgBlt := HS.out.lt
            have hgr : ((wa3.alloc (.cells #[] 59))).grownBy wa7 (some (wa3.heap.size)) := hgr
            have HB4 := Lib.hid (HB3.out.grown hgr HB3.out.size (fun q hq => by have h : wa3.heap.size = q := Option.some.inj hq; omega))
            have HA := Lib.hid (HA.out.grown hgr (by omega))
            have hAB : gA ≠ gB := by have := HA.out.lt; omega
            refine hK9.out _ _ (⟨cell_below HB4.out x5, cell_below HB4.out x6⟩) (fun hHd4 => ?_)
            clear hK9 K9
            try simp only [Act.put, List.getElem_toArray, List.getElem_cons_succ, List.getElem_cons_zero, List.setIfInBounds_toArray, List.set_cons_zero, List.set_cons_succ]
            refine wpAnyH_take (i := 8) (v := ?v5) rfl (by kernel_rfl) (by kernel_rfl) (by kernel_rfl) (fun _ _ _ h => h) (Or.inl ⟨by kernel_rfl, ?hy5⟩) (by assumption) ?_
            case hy5 => (intro w9 hS9; (try dsimp only at hS9); go_simp; (try with_reducible rfl))
            try simp only [Act.put, List.getElem_toArray, List.getElem_cons_succ, List.getElem_cons_zero, List.setIfInBounds_toArray, List.set_cons_zero, List.set_cons_succ]
            refine wpAnyH_ready (rs := [9]) (by kernel_rfl) (by simp) ?_
            refine AllReadyH.cons rfl (fun K9 hK9 => ?_) AllReadyH.nil
            rw [if_pos (by rfl)]
            have HB5 := Lib.hid (HB4.out.trans ((one_belowQ wa7 (.cells #[.slice none 0 0, .slice none 0 0] 27)).mono HB4.out.size))
            have HA := Lib.hid (HA.out.below (one_belowQ wa7 (.cells #[.slice none 0 0, .slice none 0 0] 27)))
            have HS := Lib.hid (HS.out.below (one_belowQ wa7 (.cells #[.slice none 0 0, .slice none 0 0] 27)))
            have H9 : Hid (BoxG (wa7.alloc (.cells #[.slice none 0 0, .slice none 0 0] 27)) (wa7.heap.size) (.slice none 0 0) (.slice none 0 0)) := Lib.hid (by have h := heap_alloc_new wa7 (.cells #[.slice none 0 0, .slice none 0 0] 27); simpa [BoxG] using h)
            go_simp
            refine hK9.out _ _ (⟨cell_below HB5.out x5, cell_below HB5.out x6⟩) (fun hHd5 => ?_)
            clear hK9 K9
            try simp only [Act.put, List.getElem_toArray, List.getElem_cons_succ, List.getElem_cons_zero, List.setIfInBounds_toArray, List.set_cons_zero, List.set_cons_succ]
            obtain ⟨t0, f0⟩ := H9.out.c0
            obtain ⟨t1, f1⟩ := H9.out.c1
            have hbp := one_belowQ wa7 (.cells #[(.slice (some ⟨gA, 0, none⟩) x.affixes.length cA), (.slice (some ⟨gB, 0, none⟩) x.stems.length cB)] 27)
            have HBz := Lib.hid (HB4.out.trans (hbp.mono HB4.out.size))
            refine wpAnyH_ready (rs := [10]) (by kernel_rfl) (by simp) ?_
            refine AllReadyH.cons rfl (fun K9 hK9 => ?_) AllReadyH.nil
            rw [if_pos (by rfl)]
            go_simp
            refine hK9.out _ _ (⟨cell_below HBz.out x5, cell_below HBz.out x6⟩) (fun hHe => ?_)
            clear hK9 K9
            try simp only [Act.put, List.getElem_toArray, List.getElem_cons_succ, List.getElem_cons_zero, List.setIfInBounds_toArray, List.set_cons_zero, List.set_cons_succ]
            refine wpAnyH_done (by kernel_rfl) ?_ _
            go_wp2_with fail
            go_meet
            skip
            refine ⟨wa7.heap.size, rfl, gA, cA, gB, cB, ?_, own_frame (own_monoR HA.out (by omega)) (fun q hq => ?_), own_frame (own_monoR HS.out (by omega)) (fun q hq => ?_), hu0, fun j h1 h2 => (HUS.out j h1 h2).2, by omega, hAB, by omega, by omega, HBz.out.mono (by omega)⟩
            · have h := heap_alloc_new wa7 (.cells #[(.slice (some ⟨gA, 0, none⟩) x.affixes.length cA), (.slice (some ⟨gB, 0, none⟩) x.stems.length cB)] 27); simpa [BoxG] using h
            · have e : gA = q := Option.some.inj hq; exact alloc_sameQ wa7 _ _ q (by omega)
            · have e : gB = q := Option.some.inj hq; exact alloc_sameQ wa7 _ _ q (by omega)
          · rw [if_pos (by rfl)]
            have HB4 := Lib.hid (HB3.out.trans ((one_belowQ (wa3.alloc (.cells #[] 59)) (.cells #[.slice none 0 0, .slice none 0 0] 27)).mono HB3.out.size))
            have HE2 := Lib.hid (HE2.out.below (one_belowQ (wa3.alloc (.cells #[] 59)) (.cells #[.slice none 0 0, .slice none 0 0] 27)))
            have HA := Lib.hid (HA.out.below (one_belowQ (wa3.alloc (.cells #[] 59)) (.cells #[.slice none 0 0, .slice none 0 0] 27)))
            have H9 : Hid (BoxG ((wa3.alloc (.cells #[] 59)).alloc (.cells #[.slice none 0 0, .slice none 0 0] 27)) (wa3.heap.size + 1) (.slice none 0 0) (.slice none 0 0)) := Lib.hid (by have h := heap_alloc_new (wa3.alloc (.cells #[] 59)) (.cells #[.slice none 0 0, .slice none 0 0] 27); simpa [BoxG] using h)
            go_simp
            refine hK9.out _ _ (⟨cell_below HB4.out x5, cell_below HB4.out x6⟩) (fun hHd4 => ?_)
            clear hK9 K9
            try simp only [Act.put, List.getElem_toArray, List.getElem_cons_succ, List.getElem_cons_zero, List.setIfInBounds_toArray, List.set_cons_zero, List.set_cons_succ]
            refine wpAnyH_ready (rs := [7]) (by kernel_rfl) (by simp) ?_
            refine AllReadyH.cons rfl (fun K9 hK9 => ?_) AllReadyH.nil
            refine step_copy ?_ (.tmp 15) (.tmp 17) 25 ?_ w5.heap.size 59 (.agg #[.string ⟨#[]⟩, .slice none 0 0]) 2 40 Tryz.underlying25 infoStmS rfl (by decide) (wa3.heap.size) 0 0 [] ?_ HE2.out a2 x.stems.length c2 ((x.stems.zip us0).flatMap stemL) ?_ (HRS.out.below HB4.out) (stems_oneQ _ _ HON.out) (by omega) (by decide) HB4.out.size ?_; rfl; rfl; rfl; rfl
            intro gB cB wa7 how hgr hloc
            simp only [Nat.zero_add, List.nil_append] at how
            simp only [Nat.zero_add]
            have hzz : wa3.heap.size + 1 + 1 ≤ wa7.heap.size := by have h := hgr.size; simpa using h
            have hlo : gB = wa3.heap.size ∨ gB = wa3.heap.size + 1 + 1 := hloc.imp id (fun h => by simpa using h)
            have HS : Hid (OwnT wa7 w5.heap.size (.slice (some ⟨gB, 0, none⟩) x.stems.length cB) x.stems.length ((x.stems.zip us0).flatMap stemL)) := Lib.hid how
            have hgBlt := HS.out.lt
            have hgr : (((wa3.alloc (.cells #[] 59)).alloc (.cells #[.slice none 0 0, .slice none 0 0] 27))).grownBy wa7 (some (wa3.heap.size)) := hgr
            have HB5 := Lib.hid (HB4.out.grown hgr HB4.out.size (fun q hq => by have h : wa3.heap.size = q := Option.some.inj hq; omega))
            have HA := Lib.hid (HA.out.grown hgr (by omega))
            have hAB : gA ≠ gB := by have := HA.out.lt; omega
            have H9 := Lib.hid (H9.out.grownNe hgr (fun q hq => by have h : wa3.heap.size = q := Option.some.inj hq; omega))
            have hgBx : gB ≠ wa3.heap.size + 1 := by omega
            refine hK9.out _ _ (⟨cell_below HB5.out x5, cell_below HB5.out x6⟩) (fun hHd5 => ?_)
            clear hK9 K9
            try simp only [Act.put, List.getElem_toArray, List.getElem_cons_succ, List.getElem_cons_zero, List.setIfInBounds_toArray, List.set_cons_zero, List.set_cons_succ]
            refine wpAnyH_take (i := 8) (v := ?v6) rfl (by kernel_rfl) (by kernel_rfl) (by kernel_rfl) (fun _ _ _ h => h) (Or.inl ⟨by kernel_rfl, ?hy6⟩) (by assumption) ?_
            case hy6 => (intro w9 hS9; (try dsimp only at hS9); go_simp; (try with_reducible rfl))
            try simp only [Act.put, List.getElem_toArray, List.getElem_cons_succ, List.getElem_cons_zero, List.setIfInBounds_toArray, List.set_cons_zero, List.set_cons_succ]
            obtain ⟨t0, f0⟩ := H9.out.c0
            obtain ⟨t1, f1⟩ := H9.out.c1
            have HBz := Lib.hid ((HB5.out.setCell (p := ⟨wa3.heap.size + 1, 0, none⟩) (by show w5.heap.size ≤ wa3.heap.size + 1; omega) (.slice (some ⟨gA, 0, none⟩) x.affixes.length cA)).setCell (p := ⟨wa3.heap.size + 1, 1, none⟩) (by show w5.heap.size ≤ wa3.heap.size + 1; omega) (.slice (some ⟨gB, 0, none⟩) x.stems.length cB))
            refine wpAnyH_ready (rs := [10]) (by kernel_rfl) (by simp) ?_
            refine AllReadyH.cons rfl (fun K9 hK9 => ?_) AllReadyH.nil
            rw [if_pos (by rfl)]
            go_simp
            refine hK9.out _ _ (⟨cell_below HBz.out x5, cell_below HBz.out x6⟩) (fun hHe => ?_)
            clear hK9 K9
            try simp only [Act.put, List.getElem_toArray, List.getElem_cons_succ, List.getElem_cons_zero, List.setIfInBounds_toArray, List.set_cons_zero, List.set_cons_succ]
            refine wpAnyH_done (by kernel_rfl) ?_ _
            go_wp2_with fail
            go_meet
            exact ⟨wa3.heap.size + 1, rfl, gA, cA, gB, cB, (H9.out.set0 _).set1 _, ((OwnA.set (own_monoR HA.out (by omega)) (by omega)).set (by omega) : OwnA _ (ga + 1) _ _ _), ((OwnT.set (own_monoR HS.out (by omega)) (by omega)).set (by omega) : OwnT _ (ga + 1) _ _ _), hu0, fun j h1 h2 => (HUS.out j h1 h2).2, by omega, hAB, by omega, by omega, HBz.out.mono (by omega)⟩
        · rw [if_pos (by rfl)]
          have HB3 := Lib.hid (HB2.out.trans ((one_belowQ wa3 (.cells #[.slice none 0 0, .slice none 0 0] 27)).mono HB2.out.size))
          have HA := Lib.hid (HA.out.below (one_belowQ wa3 (.cells #[.slice none 0 0, .slice none 0 0] 27)))
          have H9 : Hid (BoxG (wa3.alloc (.cells #[.slice none 0 0, .slice none 0 0] 27)) (wa3.heap.size) (.slice none 0 0) (.slice none 0 0)) := Lib.hid (by have h := heap_alloc_new wa3 (.cells #[.slice none 0 0, .slice none 0 0] 27); simpa [BoxG] using h)
          go_simp
          refine hK9.out _ _ (⟨cell_below HB3.out x5, cell_below HB3.out x6⟩) (fun hHd3 => ?_)
          clear hK9 K9
          try simp only [Act.put, List.getElem_toArray, List.getElem_cons_succ, List.getElem_cons_zero, List.setIfInBounds_toArray, List.set_cons_zero, List.set_cons_succ]
          refine wpAnyH_ready (rs := [4]) (by kernel_rfl) (by simp) ?_
          refine AllReadyH.cons rfl (fun K9 hK9 => ?_) AllReadyH.nil
          rw [if_pos (by rfl)]
          have HB4 := Lib.hid (HB3.out.trans ((one_belowQ (wa3.alloc (.cells #[.slice none 0 0, .slice none 0 0] 27)) (.cells #[] 59)).mono HB3.out.size))
          have HA := Lib.hid (HA.out.below (one_belowQ (wa3.alloc (.cells #[.slice none 0 0, .slice none 0 0] 27)) (.cells #[] 59)))
          have H9 := Lib.hid (H9.out.below (one_belowQ (wa3.alloc (.cells #[.slice none 0 0, .slice none 0 0] 27)) (.cells #[] 59)))
          have HE2 : Hid (OwnT ((wa3.alloc (.cells #[.slice none 0 0, .slice none 0 0] 27)).alloc (.cells #[] 59)) w5.heap.size (.slice (some ⟨wa3.heap.size + 1, 0, none⟩) 0 0) 0 []) := Lib.hid (by have h : OwnT ((wa3.alloc (.cells #[.slice none 0 0, .slice none 0 0] 27)).alloc (.cells #[] 59)) w5.heap.size _ 0 [] := World.ownsRow_made (size := 2) (e := 59) (base := w5.heap.size) (wa3.alloc (.cells #[.slice none 0 0, .slice none 0 0] 27)) #[] 0 HB3.out.size (by unfold maxLen; omega) (by simp); simpa using h)
          go_simp
          refine hK9.out _ _ (⟨cell_below HB4.out x5, cell_below HB4.out x6⟩) (fun hHd4 => ?_)
          clear hK9 K9
          try simp only [Act.put, List.getElem_toArray, List.getElem_cons_succ, List.getElem_cons_zero, List.setIfInBounds_toArray, List.set_cons_zero, List.set_cons_succ]
          refine wpAnyH_ready (rs := [7]) (by kernel_rfl) (by simp) ?_
          refine AllReadyH.cons rfl (fun K9 hK9 => ?_) AllReadyH.nil
          refine step_copy ?_ (.tmp 15) (.tmp 17) 25 ?_ w5.heap.size 59 (.agg #[.string ⟨#[]⟩, .slice none 0 0]) 2 40 Tryz.underlying25 infoStmS rfl (by decide) (wa3.heap.size + 1) 0 0 [] ?_ HE2.out a2 x.stems.length c2 ((x.stems.zip us0).flatMap stemL) ?_ (HRS.out.below HB4.out) (stems_oneQ _ _ HON.out) (by omega) (by decide) HB4.out.size ?_; rfl; rfl; rfl; rfl
          intro gB cB wa7 how hgr hloc
          simp only [Nat.zero_add, List.nil_append] at how
          simp only [Nat.zero_add]
          have hzz : wa3.heap.size + 1 + 1 ≤ wa7.heap.size := by have h := hgr.size; simpa using h
          have hlo : gB = wa3.heap.size + 1 ∨ gB = wa3.heap.size + 1 + 1 := hloc.imp id (fun h => by simpa using h)
          have HS : Hid (OwnT wa7 w5.heap.size (.slice (some ⟨gB, 0, none⟩) x.stems.length cB) x.stems.length ((x.stems.zip us0).flatMap stemL)) := Lib.hid how
          have hgBlt := HS.out.lt
          have hgr : (((wa3.alloc (.cells #[.slice none 0 0, .slice none 0 0] 27)).alloc (.cells #[] 59))).grownBy wa7 (some (wa3.heap.size + 1)) := hgr
          have HB5 := Lib.hid (HB4.out.grown hgr HB4.out.size (fun q hq => by have h : wa3.heap.size + 1 = q := Option.some.inj hq; omega))
          have HA := Lib.hid (HA.out.grown hgr (by omega))
          have hAB : gA ≠ gB := by have := HA.out.lt; omega
          have H9 := Lib.hid (H9.out.grownNe hgr (fun q hq => by have h : wa3.heap.size + 1 = q := Option.some.inj hq; omega))
          have hgBx : gB ≠ wa3.heap.size := by omega
          refine hK9.out _ _ (⟨cell_below HB5.out x5, cell_below HB5.out x6⟩) (fun hHd5 => ?_)
          clear hK9 K9
          try simp only [Act.put, List.getElem_toArray, List.getElem_cons_succ, List.getElem_cons_zero, List.setIfInBounds_toArray, List.set_cons_zero, List.set_cons_succ]
          refine wpAnyH_take (i := 8) (v := ?v7) rfl (by kernel_rfl) (by kernel_rfl) (by kernel_rfl) (fun _ _ _ h => h) (Or.inl ⟨by kernel_rfl, ?hy7⟩) (by assumption) ?_
          case hy7 => (intro w9 hS9; (try dsimp only at hS9); go_simp; (try with_reducible rfl))
          try simp only [Act.put, List.getElem_toArray, List.getElem_cons_succ, List.getElem_cons_zero, List.setIfInBounds_toArray, List.set_cons_zero, List.set_cons_succ]
          obtain ⟨t0, f0⟩ := H9.out.c0
          obtain ⟨t1, f1⟩ := H9.out.c1
          have HBz := Lib.hid ((HB5.out.setCell (p := ⟨wa3.heap.size, 0, none⟩) (by show w5.heap.size ≤ wa3.heap.size; omega) (.slice (some ⟨gA, 0, none⟩) x.affixes.length cA)).setCell (p := ⟨wa3.heap.size, 1, none⟩) (by show w5.heap.size ≤ wa3.heap.size; omega) (.slice (some ⟨gB, 0, none⟩) x.stems.length cB))
          refine wpAnyH_ready (rs := [10]) (by kernel_rfl) (by simp) ?_
          refine AllReadyH.cons rfl (fun K9 hK9 => ?_) AllReadyH.nil
          rw [if_pos (by rfl)]
          go_simp
          refine hK9.out _ _ (⟨cell_below HBz.out x5, cell_below HBz.out x6⟩) (fun hHe => ?_)
          clear hK9 K9
          try simp only [Act.put, List.getElem_toArray, List.getElem_cons_succ, List.getElem_cons_zero, List.setIfInBounds_toArray, List.set_cons_zero, List.set_cons_succ]
          refine wpAnyH_done (by kernel_rfl) ?_ _
          go_wp2_with fail
          go_meet
          exact ⟨wa3.heap.size, rfl, gA, cA, gB, cB, (H9.out.set0 _).set1 _, ((OwnA.set (own_monoR HA.out (by omega)) (by omega)).set (by omega) : OwnA _ (ga + 1) _ _ _), ((OwnT.set (own_monoR HS.out (by omega)) (by omega)).set (by omega) : OwnT _ (ga + 1) _ _ _), hu0, fun j h1 h2 => (HUS.out j h1 h2).2, by omega, hAB, by omega, by omega, HBz.out.mono (by omega)⟩
      · rw [if_pos (by rfl)]
        have HB2 := Lib.hid (HB1.out.trans ((one_belowQ (w5.drew.alloc (.cells #[] 51)) (.cells #[] 59)).mono HB1.out.size))
        have HE1 := Lib.hid (HE1.out.below (one_belowQ (w5.drew.alloc (.cells #[] 51)) (.cells #[] 59)))
        have HE2 : Hid (OwnT ((w5.drew.alloc (.cells #[] 51)).alloc (.cells #[] 59)) w5.heap.size (.slice (some ⟨w5.heap.size + 1, 0, none⟩) 0 0) 0 []) := Lib.hid (by have h : OwnT ((w5.drew.alloc (.cells #[] 51)).alloc (.cells #[] 59)) w5.heap.size _ 0 [] := World.ownsRow_made (size := 2) (e := 59) (base := w5.heap.size) (w5.drew.alloc (.cells #[] 51)) #[] 0 HB1.out.size (by unfold maxLen; omega) (by simp); simpa using h)
        go_simp
        refine hK9.out _ _ (⟨cell_below HB2.out x5, cell_below HB2.out x6⟩) (fun hHd2 => ?_)
        clear hK9 K9
        try simp only [Act.put, List.getElem_toArray, List.getElem_cons_succ, List.getElem_cons_zero, List.setIfInBounds_toArray, List.set_cons_zero, List.set_cons_succ]
        refine wpAnyH_ready (rs := [3, 9]) (by kernel_rfl) (by simp) ?_
        refine AllReadyH.cons rfl (fun K9 hK9 => ?_) (AllReadyH.cons rfl (fun K9 hK9 => ?_) (AllReadyH.nil))
        · refine step_copy ?_ (.tmp 11) (.tmp 13) 24 ?_ w5.heap.size 51 (.agg #[.string ⟨#[]⟩, .bool false, .string ⟨#[]⟩, .string ⟨#[]⟩, .string ⟨#[]⟩]) 5 72 Tryz.underlying24 infoAffS rfl (by decide) (w5.heap.size) 0 0 [] ?_ HE1.out a1 x.affixes.length c1 (x.affixes.flatMap affL) ?_ (HRA.out.below HB2.out) (affs_oneQ _) (by omega) (by decide) HB2.out.size ?_; rfl; rfl; rfl; rfl
          intro gA cA wa3 how hgr hloc
          simp only [Nat.zero_add, List.nil_append] at how
          simp only [Nat.zero_add]
          have hzz : w5.heap.size + 1 + 1 ≤ wa3.heap.size := by have h := hgr.size; simpa using h
          have hlo : gA = w5.heap.size ∨ gA = w5.heap.size + 1 + 1 := hloc.imp id (fun h => by simpa using h)
          have HA : Hid (OwnA wa3 w5.heap.size (.slice (some ⟨gA, 0, none⟩) x.affixes.length cA) x.affixes.length (x.affixes.flatMap affL)) := Lib.hid how
          have hgAlt := HA.out.lt
          have hgr : (((w5.drew.alloc (.cells #[] 51)).alloc (.cells #[] 59))).grownBy wa3 (some (w5.heap.size)) := hgr
          have HB3 := Lib.hid (HB2.out.grown hgr HB2.out.size (fun q hq => by have h : w5.heap.size = q := Option.some.inj hq; omega))
          have HE2 := Lib.hid (HE2.out.grown hgr (by omega))
          refine hK9.out _ _ (⟨cell_below HB3.out x5, cell_below HB3.out x6⟩) (fun hHd3 => ?_)
          clear hK9 K9
          try simp only [Act.put, List.getElem_toArray, List.getElem_cons_succ, List.getElem_cons_zero, List.setIfInBounds_toArray, List.set_cons_zero, List.set_cons_succ]
          refine wpAnyH_ready (rs := [7, 9]) (by kernel_rfl) (by simp) ?_
          refine AllReadyH.cons rfl (fun K9 hK9 => ?_) (AllReadyH.cons rfl (fun K9 hK9 => ?_) (AllReadyH.nil))
          · refine step_copy ?_ (.tmp 15) (.tmp 17) 25 ?_ w5.heap.size 59 (.agg #[.string ⟨#[]⟩, .slice none 0 0]) 2 40 Tryz.underlying25 infoStmS rfl (by decide) (w5.heap.size + 1) 0 0 [] ?_ HE2.out a2 x.stems.length c2 ((x.stems.zip us0).flatMap stemL) ?_ (HRS.out.below HB3.out) (stems_oneQ _ _ HON.out) (by omega) (by decide) HB3.out.size ?_; rfl; rfl; rfl; rfl
            intro gB cB wa7 how hgr hloc
            simp only [Nat.zero_add, List.nil_append] at how
            simp only [Nat.zero_add]
            have hzz : wa3.heap.size ≤ wa7.heap.size := by have h := hgr.size; simpa using h
            have hlo : gB = w5.heap.size + 1 ∨ gB = wa3.heap.size := hloc.imp id (fun h => by simpa using h)
            have HS : Hid (OwnT wa7 w5.heap.size (.slice (some ⟨gB, 0, none⟩) x.stems.length cB) x.stems.length ((x.stems.zip us0).flatMap stemL)) := Lib.hid how
            have hgBlt := HS.out.lt
            have hgr : (wa3).grownBy wa7 (some (w5.heap.size + 1)) := hgr
            have HB4 := Lib.hid (HB3.out.grown hgr HB3.out.size (fun q hq => by have h : w5.heap.size + 1 = q := Option.some.inj hq; omega))
            have HA := Lib.hid (HA.out.grown hgr (by omega))
            have hAB : gA ≠ gB := by have := HA.out.lt; omega
            refine hK9.out _ _ (⟨cell_below HB4.out x5, cell_below HB4.out x6⟩) (fun hHd4 => ?_)
            clear hK9 K9
            try simp only [Act.put, List.getElem_toArray, List.getElem_cons_succ, List.getElem_cons_zero, List.setIfInBounds_toArray, List.set_cons_zero, List.set_cons_succ]
            refine wpAnyH_take (i := 8) (v := ?v8) rfl (by kernel_rfl) (by kernel_rfl) (by kernel_rfl) (fun _ _ _ h => h) (Or.inl ⟨by kernel_rfl, ?hy8⟩) (by assumption) ?_
            case hy8 => (intro w9 hS9; (try dsimp only at hS9); go_simp; (try with_reducible rfl))
            try simp only [Act.put, List.getElem_toArray, List.getElem_cons_succ, List.getElem_cons_zero, List.setIfInBounds_toArray, List.set_cons_zero, List.set_cons_succ]
            refine wpAnyH_ready (rs := [9]) (by kernel_rfl) (by simp) ?_
            refine AllReadyH.cons rfl (fun K9 hK9 => ?_) AllReadyH.nil
            rw [if_pos (by rfl)]
            have HB5 := Lib.hid (HB4.out.trans ((one_belowQ wa7 (.cells #[.slice none 0 0, .slice none 0 0] 27)).mono HB4.out.size))
            have HA := Lib.hid (HA.out.below (one_belowQ wa7 (.cells #[.slice none 0 0, .slice none 0 0] 27)))
            have HS := Lib.hid (HS.out.below (one_belowQ wa7 (.cells #[.slice none 0 0, .slice none 0 0] 27)))
            have H9 : Hid (BoxG (wa7.alloc (.cells #[.slice none 0 0, .slice none 0 0] 27)) (wa7.heap.size) (.slice none 0 0) (.slice none 0 0)) := Lib.hid (by have h := heap_alloc_new wa7 (.cells #[.slice none 0 0, .slice none 0 0] 27); simpa [BoxG] using h)
            go_simp
            refine hK9.out _ _ (⟨cell_below HB5.out x5, cell_below HB5.out x6⟩) (fun hHd5 => ?_)
            clear hK9 K9
            try simp only [Act.put, List.getElem_toArray, List.getElem_cons_succ, List.getElem_cons_zero, List.setIfInBounds_toArray, List.set_cons_zero, List.set_cons_succ]
            obtain ⟨t0, f0⟩ := H9.out.c0
            obtain ⟨t1, f1⟩ := H9.out.c1
            have hbp := one_belowQ wa7 (.cells #[(.slice (some ⟨gA, 0, none⟩) x.affixes.length cA), (.slice (some ⟨gB, 0, none⟩) x.stems.length cB)] 27)
            have HBz := Lib.hid (HB4.out.trans (hbp.mono HB4.out.size))
            refine wpAnyH_ready (rs := [10]) (by kernel_rfl) (by simp) ?_
            refine AllReadyH.cons rfl (fun K9 hK9 => ?_) AllReadyH.nil
            rw [if_pos (by rfl)]
            go_simp
            refine hK9.out _ _ (⟨cell_below HBz.out x5, cell_below HBz.out x6⟩) (fun hHe => ?_)
            clear hK9 K9
            try simp only [Act.put, List.getElem_toArray, List.getElem_cons_succ, List.getElem_cons_zero, List.setIfInBounds_toArray, List.set_cons_zero, List.set_cons_succ]
            refine wpAnyH_done (by kernel_rfl) ?_ _
            go_wp2_with fail
            go_meet
            skip
            refine ⟨wa7.heap.size, rfl, gA, cA, gB, cB, ?_, own_frame (own_monoR HA.out (by omega)) (fun q hq => ?_), own_frame (own_monoR HS.out (by omega)) (fun q hq => ?_), hu0, fun j h1 h2 => (HUS.out j h1 h2).2, by omega, hAB, by omega, by omega, HBz.out.mono (by omega)⟩
            · have h := heap_alloc_new wa7 (.cells #[(.slice (some ⟨gA, 0, none⟩) x.affixes.length cA), (.slice (some ⟨gB, 0, none⟩) x.stems.length cB)] 27); simpa [BoxG] using h
            · have e : gA = q := Option.some.inj hq; exact alloc_sameQ wa7 _ _ q (by omega)
            · have e : gB = q := Option.some.inj hq; exact alloc_sameQ wa7 _ _ q (by omega)
          · rw [if_pos (by rfl)]
            have HB4 := Lib.hid (HB3.out.trans ((one_belowQ wa3 (.cells #[.slice none 0 0, .slice none 0 0] 27)).mono HB3.out.size))
            have HE2 := Lib.hid (HE2.out.below (one_belowQ wa3 (.cells #[.slice none 0 0, .slice none 0 0] 27)))
            have HA := Lib.hid (HA.out.below (one_belowQ wa3 (.cells #[.slice none 0 0, .slice none 0 0] 27)))
            have H9 : Hid (BoxG (wa3.alloc (.cells #[.slice none 0 0, .slice none 0 0] 27)) (wa3.heap.size) (.slice none 0 0) (.slice none 0 0)) := Lib.hid (by have h := heap_alloc_new wa3 (.cells #[.slice none 0 0, .slice none 0 0] 27); simpa [BoxG] using h)
            go_simp
            refine hK9.out _ _ (⟨cell_below HB4.out x5, cell_below HB4.out x6⟩) (fun hHd4 => ?_)
            clear hK9 K9
            try simp only [Act.put, List.getElem_toArray, List.getElem_cons_succ, List.getElem_cons_zero, List.setIfInBounds_toArray, List.set_cons_zero, List.set_cons_succ]
            refine wpAnyH_ready (rs := [7]) (by kernel_rfl) (by simp) ?_
            refine AllReadyH.cons rfl (fun K9 hK9 => ?_) AllReadyH.nil
            refine step_copy ?_ (.tmp 15) (.tmp 17) 25 ?_ w5.heap.size 59 (.agg #[.string ⟨#[]⟩, .slice none 0 0]) 2 40 Tryz.underlying25 infoStmS rfl (by decide) (w5.heap.size + 1) 0 0 [] ?_ HE2.out a2 x.stems.length c2 ((x.stems.zip us0).flatMap stemL) ?_ (HRS.out.below HB4.out) (stems_oneQ _ _ HON.out) (by omega) (by decide) HB4.out.size ?_; rfl; rfl; rfl; rfl
            intro gB cB wa7 how hgr hloc
            simp only [Nat.zero_add, List.nil_append] at how
            simp only [Nat.zero_add]
            have hzz : wa3.heap.size + 1 ≤ wa7.heap.size := by have h := hgr.size; simpa using h
            have hlo : gB = w5.heap.size + 1 ∨ gB = wa3.heap.size + 1 := hloc.imp id (fun h => by simpa using h)
            have HS : Hid (OwnT wa7 w5.heap.size (.slice (some ⟨gB, 0, none⟩) x.stems.length cB) x.stems.length ((x.stems.zip us0).flatMap stemL)) := Lib.hid how
            have hgBlt := HS.out.lt
            have hgr : ((wa3.alloc (.cells #[.slice none 0 0, .slice none 0 0] 27))).grownBy wa7 (some (w5.heap.size + 1)) := hgr
            have HB5 := Lib.hid (HB4.out.grown hgr HB4.out.size (fun q hq => by have h : w5.heap.size + 1 = q := Option.some.inj hq; omega))
            have HA := Lib.hid (HA.out.grown hgr (by omega))
            have hAB : gA ≠ gB := by have := HA.out.lt; omega
            have H9 := Lib.hid (H9.out.grownNe hgr (fun q hq => by have h : w5.heap.size + 1 = q := Option.some.inj hq; omega))
            have hgBx : gB ≠ wa3.heap.size := by omega
            refine hK9.out _ _ (⟨cell_below HB5.out x5, cell_below HB5.out x6⟩) (fun hHd5 => ?_)
            clear hK9 K9
            try simp only [Act.put, List.getElem_toArray, List.getElem_cons_succ, List.getElem_cons_zero, List.setIfInBounds_toArray, List.set_cons_zero, List.set_cons_succ]
            refine wpAnyH_take (i := 8) (v := ?v9) rfl (by kernel_rfl) (by kernel_rfl) (by kernel_rfl) (fun _ _ _ h => h) (Or.inl ⟨by kernel_rfl, ?hy9⟩) (by assumption) ?_
            case hy9 => (intro w9 hS9; (try dsimp only at hS9); go_simp; (try with_reducible rfl))
            try simp only [Act.put, List.getElem_toArray, List.getElem_cons_succ, List.getElem_cons_zero, List.setIfInBounds_toArray, List.set_cons_zero, List.set_cons_succ]
            obtain ⟨t0, f0⟩ := H9.out.c0
            obtain ⟨t1, f1⟩ := H9.out.c1
            have HBz := Lib.hid ((HB5.out.setCell (p := ⟨wa3.heap.size, 0, none⟩) (by show w5.heap.size ≤ wa3.heap.size; omega) (.slice (some ⟨gA, 0, none⟩) x.affixes.length cA)).setCell (p := ⟨wa3.heap.size, 1, none⟩) (by show w5.heap.size ≤ wa3.heap.size; omega) (.slice (some ⟨gB, 0, none⟩) x.stems.length cB))
            refine wpAnyH_ready (rs := [10]) (by kernel_rfl) (by simp) ?_
            refine AllReadyH.cons rfl (fun K9 hK9 => ?_) AllReadyH.nil
            rw [if_pos (by rfl)]
            go_simp
            refine hK9.out _ _ (⟨cell_below HBz.out x5, cell_below HBz.out x6⟩) (fun hHe => ?_)
            clear hK9 K9
            try simp only [Act.put, List.getElem_toArray, List.getElem_cons_succ, List.getElem_cons_zero, List.setIfInBounds_toArray, List.set_cons_zero, List.set_cons_succ]
            refine wpAnyH_done (by kernel_rfl) ?_ _
            go_wp2_with fail
            go_meet
            exact ⟨wa3.heap.size, rfl, gA, cA, gB, cB, (H9.out.set0 _).set1 _, ((OwnA.set (own_monoR HA.out (by omega)) (by omega)).set (by omega) : OwnA _ (ga + 1) _ _ _), ((OwnT.set (own_monoR HS.out (by omega)) (by omega)).set (by omega) : OwnT _ (ga + 1) _ _ _), hu0, fun j h1 h2 => (HUS.out j h1 h2).2, by omega, hAB, by omega, by omega, HBz.out.mono (by omega)⟩
        · rw [if_pos (by rfl)]
          have HB3 := Lib.hid (HB2.out.trans ((one_belowQ ((w5.drew.alloc (.cells #[] 51)).alloc (.cells #[] 59)) (.cells #[.slice none 0 0, .slice none 0 0] 27)).mono HB2.out.size))
          have HE1 := Lib.hid (HE1.out.below (one_belowQ ((w5.drew.alloc (.cells #[] 51)).alloc (.cells #[] 59)) (.cells #[.slice none 0 0, .slice none 0 0] 27)))
          have HE2 := Lib.hid (HE2.out.below (one_belowQ ((w5.drew.alloc (.cells #[] 51)).alloc (.cells #[] 59)) (.cells #[.slice none 0 0, .slice none 0 0] 27)))
          have H9 : Hid (BoxG (((w5.drew.alloc (.cells #[] 51)).alloc (.cells #[] 59)).alloc (.cells #[.slice none 0 0, .slice none 0 0] 27)) (w5.heap.size + 1 + 1) (.slice none 0 0) (.slice none 0 0)) := Lib.hid (by have h := heap_alloc_new ((w5.drew.alloc (.cells #[] 51)).alloc (.cells #[] 59)) (.cells #[.slice none 0 0, .slice none 0 0] 27); simpa [BoxG] using h)
          go_simp
          refine hK9.out _ _ (⟨cell_below HB3.out x5, cell_below HB3.out x6⟩) (fun hHd3 => ?_)
          clear hK9 K9
          try simp only [Act.put, List.getElem_toArray, List.getElem_cons_succ, List.getElem_cons_zero, List.setIfInBounds_toArray, List.set_cons_zero, List.set_cons_succ]
          refine wpAnyH_ready (rs := [3]) (by kernel_rfl) (by simp) ?_
          refine AllReadyH.cons rfl (fun K9 hK9 => ?_) AllReadyH.nil
          refine step_copy ?_ (.tmp 11) (.tmp 13) 24 ?_ w5.heap.size 51 (.agg #[.string ⟨#[]⟩, .bool false, .string ⟨#[]⟩, .string ⟨#[]⟩, .string ⟨#[]⟩]) 5 72 Tryz.underlying24 infoAffS rfl (by decide) (w5.heap.size) 0 0 [] ?_ HE1.out a1 x.affixes.length c1 (x.affixes.flatMap affL) ?_ (HRA.out.below HB3.out) (affs_oneQ _) (by omega) (by decide) HB3.out.size ?_; rfl; rfl; rfl; rfl
          intro gA cA wa3 how hgr hloc
          simp only [Nat.zero_add, List.nil_append] at how
          simp only [Nat.zero_add]
          have hzz : w5.heap.size + 1 + 1 + 1 ≤ wa3.heap.size := by have h := hgr.size; simpa using h
          have hlo : gA = w5.heap.size ∨ gA = w5.heap.size + 1 + 1 + 1 := hloc.imp id (fun h => by simpa using h)
          have HA : Hid (OwnA wa3 w5.heap.size (.slice (some ⟨gA, 0, none⟩) x.affixes.length cA) x.affixes.length (x.affixes.flatMap affL)) := Lib.hid how
          have hgAlt := HA.out.lt
          have hgr : ((((w5.drew.alloc (.cells #[] 51)).alloc (.cells #[] 59)).alloc (.cells #[.slice none 0 0, .slice none 0 0] 27))).grownBy wa3 (some (w5.heap.size)) := hgr
          have HB4 := Lib.hid (HB3.out.grown hgr HB3.out.size (fun q hq => by have h : w5.heap.size = q := Option.some.inj hq; omega))
          have HE2 := Lib.hid (HE2.out.grown hgr (by omega))
          have H9 := Lib.hid (H9.out.grownNe hgr (fun q hq => by have h : w5.heap.size = q := Option.some.inj hq; omega))
          have hgAx : gA ≠ w5.heap.size + 1 + 1 := by omega
          refine hK9.out _ _ (⟨cell_below HB4.out x5, cell_below HB4.out x6⟩) (fun hHd4 => ?_)
          clear hK9 K9
          try simp only [Act.put, List.getElem_toArray, List.getElem_cons_succ, List.getElem_cons_zero, List.setIfInBounds_toArray, List.set_cons_zero, List.set_cons_succ]
          refine wpAnyH_ready (rs := [7]) (by kernel_rfl) (by simp) ?_
          refine AllReadyH.cons rfl (fun K9 hK9 => ?_) AllReadyH.nil
          refine step_copy ?_ (.tmp 15) (.tmp 17) 25 ?_ w5.heap.size 59 (.agg #[.string ⟨#[]⟩, .slice none 0 0]) 2 40 Tryz.underlying25 infoStmS rfl (by decide) (w5.heap.size + 1) 0 0 [] ?_ HE2.out a2 x.stems.length c2 ((x.stems.zip us0).flatMap stemL) ?_ (HRS.out.below HB4.out) (stems_oneQ _ _ HON.out) (by omega) (by decide) HB4.out.size ?_; rfl; rfl; rfl; rfl
          intro gB cB wa7 how hgr hloc
          simp only [Nat.zero_add, List.nil_append] at how
          simp only [Nat.zero_add]
          have hzz : wa3.heap.size ≤ wa7.heap.size := by have h := hgr.size; simpa using h
          have hlo : gB = w5.heap.size + 1 ∨ gB = wa3.heap.size := hloc.imp id (fun h => by simpa using h)
          have HS : Hid (OwnT wa7 w5.heap.size (.slice (some ⟨gB, 0, none⟩) x.stems.length cB) x.stems.length ((x.stems.zip us0).flatMap stemL)) := Lib.hid how
          have hgBlt := HS.out.lt
          have hgr : (wa3).grownBy wa7 (some (w5.heap.size + 1)) := hgr
          have HB5 := Lib.hid (HB4.out.grown hgr HB4.out.size (fun q hq => by have h : w5.heap.size + 1 = q := Option.some.inj hq; omega))
          have HA := Lib.hid (HA.out.grown hgr (by omega))
          have hAB : gA ≠ gB := by have := HA.out.lt; omega
          have H9 := Lib.hid (H9.out.grownNe hgr (fun q hq => by have h : w5.heap.size + 1 = q := Option.some.inj hq; omega))
          have hgBx : gB ≠ w5.heap.size + 1 + 1 := by omega
          refine hK9.out _ _ (⟨cell_below HB5.out x5, cell_below HB5.out x6⟩) (fun hHd5 => ?_)
          clear hK9 K9
          try simp only [Act.put, List.getElem_toArray, List.getElem_cons_succ, List.getElem_cons_zero, List.setIfInBounds_toArray, List.set_cons_zero, List.set_cons_succ]
          refine wpAnyH_take (i := 8) (v := ?v10) rfl (by kernel_rfl) (by kernel_rfl) (by kernel_rfl) (fun _ _ _ h => h) (Or.inl ⟨by kernel_rfl, ?hy10⟩) (by assumption) ?_
          case hy10 => (intro w9 hS9; (try dsimp only at hS9); go_simp; (try with_reducible rfl))
          try simp only [Act.put, List.getElem_toArray, List.getElem_cons_succ, List.getElem_cons_zero, List.setIfInBounds_toArray, List.set_cons_zero, List.set_cons_succ]
          obtain ⟨t0, f0⟩ := H9.out.c0
          obtain ⟨t1, f1⟩ := H9.out.c1
          have HBz := Lib.hid ((HB5.out.setCell (p := ⟨w5.heap.size + 1 + 1, 0, none⟩) (by show w5.heap.size ≤ w5.heap.size + 1 + 1; omega) (.slice (some ⟨gA, 0, none⟩) x.affixes.length cA)).setCell (p := ⟨w5.heap.size + 1 + 1, 1, none⟩) (by show w5.heap.size ≤ w5.heap.size + 1 + 1; omega) (.slice (some ⟨gB, 0, none⟩) x.stems.length cB))
          refine wpAnyH_ready (rs := [10]) (by kernel_rfl) (by simp) ?_
          refine AllReadyH.cons rfl (fun K9 hK9 => ?_) AllReadyH.nil
          rw [if_pos (by rfl)]
          go_simp
          refine hK9.out _ _ (⟨cell_below HBz.out x5, cell_below HBz.out x6⟩) (fun hHe => ?_)
          clear hK9 K9
          try simp only [Act.put, List.getElem_toArray, List.getElem_cons_succ, List.getElem_cons_zero, List.setIfInBounds_toArray, List.set_cons_zero, List.set_cons_succ]
          refine wpAnyH_done (by kernel_rfl) ?_ _
          go_wp2_with fail
          go_meet
          exact ⟨w5.heap.size + 1 + 1, rfl, gA, cA, gB, cB, (H9.out.set0 _).set1 _, ((OwnA.set (own_monoR HA.out (by omega)) (by omega)).set (by omega) : OwnA _ (ga + 1) _ _ _), ((OwnT.set (own_monoR HS.out (by omega)) (by omega)).set (by omega) : OwnT _ (ga + 1) _ _ _), hu0, fun j h1 h2 => (HUS.out j h1 h2).2, by omega, hAB, by omega, by omega, HBz.out.mono (by omega)⟩
      · rw [if_pos (by rfl)]
        have HB2 := Lib.hid (HB1.out.trans ((one_belowQ (w5.drew.alloc (.cells #[] 51)) (.cells #[.slice none 0 0, .slice none 0 0] 27)).mono HB1.out.size))
        have HE1 := Lib.hid (HE1.out.below (one_belowQ (w5.drew.alloc (.cells #[] 51)) (.cells #[.slice none 0 0, .slice none 0 0] 27)))
        have H9 : Hid (BoxG ((w5.drew.alloc (.cells #[] 51)).alloc (.cells #[.slice none 0 0, .slice none 0 0] 27)) (w5.heap.size + 1) (.slice none 0 0) (.slice none 0 0)) := Lib.hid (by have h := heap_alloc_new (w5.drew.alloc (.cells #[] 51)) (.cells #[.slice none 0 0, .slice none 0 0] 27); simpa [BoxG] using h)
        go_simp
        refine hK9.out _ _ (⟨cell_below HB2.out x5, cell_below HB2.out x6⟩) (fun hHd2 => ?_)
        clear hK9 K9
        try simp only [Act.put, List.getElem_toArray, List.getElem_cons_succ, List.getElem_cons_zero, List.setIfInBounds_toArray, List.set_cons_zero, List.set_cons_succ]
        refine wpAnyH_ready (rs := [3, 4]) (by kernel_rfl) (by simp) ?_
        refine AllReadyH.cons rfl (fun K9 hK9 => ?_) (AllReadyH.cons rfl (fun K9 hK9 => ?_) (AllReadyH.nil))
        · refine step_copy ?_ (.tmp 11) (.tmp 13) 24 ?_ w5.heap.size 51 (.agg #[.string ⟨#[]⟩, .bool false, .string ⟨#[]⟩, .string ⟨#[]⟩, .string ⟨#[]⟩]) 5 72 Tryz.underlying24 infoAffS rfl (by decide) (w5.heap.size) 0 0 [] ?_ HE1.out a1 x.affixes.length c1 (x.affixes.flatMap affL) ?_ (HRA.out.below HB2.out) (affs_oneQ _) (by omega) (by decide) HB2.out.size ?_; rfl; rfl; rfl; rfl
          intro gA cA wa3 how hgr hloc
          simp only [Nat.zero_add, List.nil_append] at how
          simp only [Nat.zero_add]
          have hzz : w5.heap.size + 1 + 1 ≤ wa3.heap.size := by have h := hgr.size; simpa using h
          have hlo : gA = w5.heap.size ∨ gA = w5.heap.size + 1 + 1 := hloc.imp id (fun h => by simpa using h)
          have HA : Hid (OwnA wa3 w5.heap.size (.slice (some ⟨gA, 0, none⟩) x.affixes.length cA) x.affixes.length (x.affixes.flatMap affL)) := Lib.hid how
          have hgAlt := HA.out.lt
          have hgr : (((w5.drew.alloc (.cells #[] 51)).alloc (.cells #[.slice none 0 0, .slice none 0 0] 27))).grownBy wa3 (some (w5.heap.size)) := hgr
          have HB3 := Lib.hid (HB2.out.grown hgr HB2.out.size (fun q hq => by have h : w5.heap.size = q := Option.some.inj hq; omega))
          have H9 := Lib.hid (H9.out.grownNe hgr (fun q hq => by have h : w5.heap.size = q := Option.some.inj hq; omega))
          have hgAx : gA ≠ w5.heap.size + 1 := by omega
          refine hK9.out _ _ (⟨cell_below HB3.out x5, cell_below HB3.out x6⟩) (fun hHd3 => ?_)
          clear hK9 K9
          try simp only [Act.put, List.getElem_toArray, List.getElem_cons_succ, List.getElem_cons_zero, List.setIfInBounds_toArray, List.set_cons_zero, List.set_cons_succ]
          refine wpAnyH_ready (rs := [4]) (by kernel_rfl) (by simp) ?_
          refine AllReadyH.cons rfl (fun K9 hK9 => ?_) AllReadyH.nil
          rw [if_pos (by rfl)]
          have HB4 := Lib.hid (HB3.out.trans ((one_belowQ wa3 (.cells #[] 59)).mono HB3.out.size))
          have HA := Lib.hid (HA.out.below (one_belowQ wa3 (.cells #[] 59)))
          have H9 := Lib.hid (H9.out.below (one_belowQ wa3 (.cells #[] 59)))
          have HE2 : Hid (OwnT (wa3.alloc (.cells #[] 59)) w5.heap.size (.slice (some ⟨wa3.heap.size, 0, none⟩) 0 0) 0 []) := Lib.hid (by have h : OwnT (wa3.alloc (.cells #[] 59)) w5.heap.size _ 0 [] := World.ownsRow_made (size := 2) (e := 59) (base := w5.heap.size) wa3 #[] 0 HB3.out.size (by unfold maxLen; omega) (by simp); simpa using h)
          go_simp
          refine hK9.out _ _ (⟨cell_below HB4.out x5, cell_below HB4.out x6⟩) (fun hHd4 => ?_)
          clear hK9 K9
          try simp only [Act.put, List.getElem_toArray, List.getElem_cons_succ, List.getElem_cons_zero, List.setIfInBounds_toArray, List.set_cons_zero, List.set_cons_succ]
          refine wpAnyH_ready (rs := [7]) (by kernel_rfl) (by simp) ?_
          refine AllReadyH.cons rfl (fun K9 hK9 => ?_) AllReadyH.nil
          refine step_copy ?_ (.tmp 15) (.tmp 17) 25 ?_ w5.heap.size 59 (.agg #[.string ⟨#[]⟩, .slice none 0 0]) 2 40 Tryz.underlying25 infoStmS rfl (by decide) (wa3.heap.size) 0 0 [] ?_ HE2.out a2 x.stems.length c2 ((x.stems.zip us0).flatMap stemL) ?_ (HRS.out.below HB4.out) (stems_oneQ _ _ HON.out) (by omega) (by decide) HB4.out.size ?_; rfl; rfl; rfl; rfl
          intro gB cB wa7 how hgr hloc
          simp only [Nat.zero_add, List.nil_append] at how
          simp only [Nat.zero_add]
          have hzz : wa3.heap.size + 1 ≤ wa7.heap.size := by have h := hgr.size; simpa using h
          have hlo : gB = wa3.heap.size ∨ gB = wa3.heap.size + 1 := hloc.imp id (fun h => by simpa using h)
          have HS : Hid (OwnT wa7 w5.heap.size (.slice (some ⟨gB, 0, none⟩) x.stems.length cB) x.stems.length ((x.stems.zip us0).flatMap stemL)) := Lib.hid how
          have hgBlt := HS.out.lt
          have hgr : ((wa3.alloc (.cells #[] 59))).grownBy wa7 (some (wa3.heap.size)) := hgr
          have HB5 := Lib.hid (HB4.out.grown hgr HB4.out.size (fun q hq => by have h : wa3.heap.size = q := Option.some.inj hq; omega))
          have HA := Lib.hid (HA.out.grown hgr (by omega))
          have hAB : gA ≠ gB := by have := HA.out.lt; omega
          have H9 := Lib.hid (H9.out.grownNe hgr (fun q hq => by have h : wa3.heap.size = q := Option.some.inj hq; omega))
          have hgBx : gB ≠ w5.heap.size + 1 := by omega
          refine hK9.out _ _ (⟨cell_below HB5.out x5, cell_below HB5.out x6⟩) (fun hHd5 => ?_)
          clear hK9 K9
          try simp only [Act.put, List.getElem_toArray, List.getElem_cons_succ, List.getElem_cons_zero, List.setIfInBounds_toArray, List.set_cons_zero, List.set_cons_succ]
          refine wpAnyH_take (i := 8) (v := ?v11) rfl (by kernel_rfl) (by kernel_rfl) (by kernel_rfl) (fun _ _ _ h => h) (Or.inl ⟨by kernel_rfl, ?hy11⟩) (by assumption) ?_
          case hy11 => (intro w9 hS9; (try dsimp only at hS9); go_simp; (try with_reducible rfl))
          try simp only [Act.put, List.getElem_toArray, List.getElem_cons_succ, List.getElem_cons_zero, List.setIfInBounds_toArray, List.set_cons_zero, List.set_cons_succ]
          obtain ⟨t0, f0⟩ := H9.out.c0
          obtain ⟨t1, f1⟩ := H9.out.c1
          have HBz := Lib.hid ((HB5.out.setCell (p := ⟨w5.heap.size + 1, 0, none⟩) (by show w5.heap.size ≤ w5.heap.size + 1; omega) (.slice (some ⟨gA, 0, none⟩) x.affixes.length cA)).setCell (p := ⟨w5.heap.size + 1, 1, none⟩) (by show w5.heap.size ≤ w5.heap.size + 1; omega) (.slice (some ⟨gB, 0, none⟩) x.stems.length cB))
          refine wpAnyH_ready (rs := [10]) (by kernel_rfl) (by simp) ?_
          refine AllReadyH.cons rfl (fun K9 hK9 => ?_) AllReadyH.nil
          rw [if_pos (by rfl)]
          go_simp
          refine hK9.out _ _ (⟨cell_below HBz.out x5, cell_below HBz.out x6⟩) (fun hHe => ?_)
          clear hK9 K9
          try simp only [Act.put, List.getElem_toArray, List.getElem_cons_succ, List.getElem_cons_zero, List.setIfInBounds_toArray, List.set_cons_zero, List.set_cons_succ]
          refine wpAnyH_done (by kernel_rfl) ?_ _
          go_wp2_with fail
          go_meet
          exact ⟨w5.heap.size + 1, rfl, gA, cA, gB, cB, (H9.out.set0 _).set1 _, ((OwnA.set (own_monoR HA.out (by omega)) (by omega)).set (by omega) : OwnA _ (ga + 1) _ _ _), ((OwnT.set (own_monoR HS.out (by omega)) (by omega)).set (by omega) : OwnT _ (ga + 1) _ _ _), hu0, fun j h1 h2 => (HUS.out j h1 h2).2, by omega, hAB, by omega, by omega, HBz.out.mono (by omega)⟩
        · rw [if_pos (by rfl)]
          have HB3 := Lib.hid (HB2.out.trans ((one_belowQ ((w5.drew.alloc (.cells #[] 51)).alloc (.cells #[.slice none 0 0, .slice none 0 0] 27)) (.cells #[] 59)).mono HB2.out.size))
          have HE1 := Lib.hid (HE1.out.below (one_belowQ ((w5.drew.alloc (.cells #[] 51)).alloc (.cells #[.slice none 0 0, .slice none 0 0] 27)) (.cells #[] 59)))
          have H9 := Lib.hid (H9.out.below (one_belowQ ((w5.drew.alloc (.cells #[] 51)).alloc (.cells #[.slice none 0 0, .slice none 0 0] 27)) (.cells #[] 59)))
          have HE2 : Hid (OwnT (((w5.drew.alloc (.cells #[] 51)).alloc (.cells #[.slice none 0 0, .slice none 0 0] 27)).alloc (.cells #[] 59)) w5.heap.size (.slice (some ⟨w5.heap.size + 1 + 1, 0, none⟩) 0 0) 0 []) := Lib.hid (by have h : OwnT (((w5.drew.alloc (.cells #[] 51)).alloc (.cells #[.slice none 0 0, .slice none 0 0] 27)).alloc (.cells #[] 59)) w5.heap.size _ 0 [] := World.ownsRow_made (size := 2) (e := 59) (base := w5.heap.size) ((w5.drew.alloc (.cells #[] 51)).alloc (.cells #[.slice none 0 0, .slice none 0 0] 27)) #[] 0 HB2.out.size (by unfold maxLen; omega) (by simp); simpa using h)
          go_simp
          refine hK9.out _ _ (⟨cell_below HB3.out x5, cell_below HB3.out x6⟩) (fun hHd3 => ?_)
          clear hK9 K9
          try simp only [Act.put, List.getElem_toArray, List.getElem_cons_succ, List.getElem_cons_zero, List.setIfInBounds_toArray, List.set_cons_zero, List.set_cons_succ]
          refine wpAnyH_ready (rs := [3]) (by kernel_rfl) (by simp) ?_
          refine AllReadyH.cons rfl (fun K9 hK9 => ?_) AllReadyH.nil
          refine step_copy ?_ (.tmp 11) (.tmp 13) 24 ?_ w5.heap.size 51 (.agg #[.string ⟨#[]⟩, .bool false, .string ⟨#[]⟩, .string ⟨#[]⟩, .string ⟨#[]⟩]) 5 72 Tryz.underlying24 infoAffS rfl (by decide) (w5.heap.size) 0 0 [] ?_ HE1.out a1 x.affixes.length c1 (x.affixes.flatMap affL) ?_ (HRA.out.below HB3.out) (affs_oneQ _) (by omega) (by decide) HB3.out.size ?_; rfl; rfl; rfl; rfl
          intro gA cA wa3 how hgr hloc
          simp only [Nat.zero_add, List.nil_append] at how
          simp only [Nat.zero_add]
          have hzz : w5.heap.size + 1 + 1 + 1 ≤ wa3.heap.size := by have h := hgr.size; simpa using h
          have hlo : gA = w5.heap.size ∨ gA = w5.heap.size + 1 + 1 + 1 := hloc.imp id (fun h => by simpa using h)
          have HA : Hid (OwnA wa3 w5.heap.size (.slice (some ⟨gA, 0, none⟩) x.affixes.length cA) x.affixes.length (x.affixes.flatMap affL)) := Lib.hid how
          have hgAlt := HA.out.lt
          have hgr : ((((w5.drew.alloc (.cells #[] 51)).alloc (.cells #[.slice none 0 0, .slice none 0 0] 27)).alloc (.cells #[] 59))).grownBy wa3 (some (w5.heap.size)) := hgr
          have HB4 := Lib.hid (HB3.out.grown hgr HB3.out.size (fun q hq => by have h : w5.heap.size = q := Option.some.inj hq; omega))
          have HE2 := Lib.hid (HE2.out.grown hgr (by omega))
          have H9 := Lib.hid (H9.out.grownNe hgr (fun q hq => by have h : w5.heap.size = q := Option.some.inj hq; omega))
          have hgAx : gA ≠ w5.heap.size + 1 := by omega
          refine hK9.out _ _ (⟨cell_below HB4.out x5, cell_below HB4.out x6⟩) (fun hHd4 => ?_)
          clear hK9 K9
          try simp only [Act.put, List.getElem_toArray, List.getElem_cons_succ, List.getElem_cons_zero, List.setIfInBounds_toArray, List.set_cons_zero, List.set_cons_succ]
          refine wpAnyH_ready (rs := [7]) (by kernel_rfl) (by simp) ?_
          refine AllReadyH.cons rfl (fun K9 hK9 => ?_) AllReadyH.nil
          refine step_copy ?_ (.tmp 15) (.tmp 17) 25 ?_ w5.heap.size 59 (.agg #[.string ⟨#[]⟩, .slice none 0 0]) 2 40 Tryz.underlying25 infoStmS rfl (by decide) (w5.heap.size + 1 + 1) 0 0 [] ?_ HE2.out a2 x.stems.length c2 ((x.stems.zip us0).flatMap stemL) ?_ (HRS.out.below HB4.out) (stems_oneQ _ _ HON.out) (by omega) (by decide) HB4.out.size ?_; rfl; rfl; rfl; rfl
          intro gB cB wa7 how hgr hloc
          simp only [Nat.zero_add, List.nil_append] at how
          simp only [Nat.zero_add]
          have hzz : wa3.heap.size ≤ wa7.heap.size := by have h := hgr.size; simpa using h
          have hlo : gB = w5.heap.size + 1 + 1 ∨ gB = wa3.heap.size := hloc.imp id (fun h => by simpa using h)
          have HS : Hid (OwnT wa7 w5.heap.size (.slice (some ⟨gB, 0, none⟩) x.stems.length cB) x.stems.length ((x.stems.zip us0).flatMap stemL)) := Lib.hid how
          have hgBlt := HS.out.lt
          have hgr : (wa3).grownBy wa7 (some (w5.heap.size + 1 + 1)) := hgr
          have HB5 := Lib.hid (HB4.out.grown hgr HB4.out.size (fun q hq => by have h : w5.heap.size + 1 + 1 = q := Option.some.inj hq; omega))
          have HA := Lib.hid (HA.out.grown hgr (by omega))
          have hAB : gA ≠ gB := by have := HA.out.lt; omega
          have H9 := Lib.hid (H9.out.grownNe hgr (fun q hq => by have h : w5.heap.size + 1 + 1 = q := Option.some.inj hq; omega))
          have hgBx : gB ≠ w5.heap.size + 1 := by omega
          refine hK9.out _ _ (⟨cell_below HB5.out x5, cell_below HB5.out x6⟩) (fun hHd5 => ?_)
          clear hK9 K9
          try simp only [Act.put, List.getElem_toArray, List.getElem_cons_succ, List.getElem_cons_zero, List.setIfInBounds_toArray, List.set_cons_zero, List.set_cons_succ]
          refine wpAnyH_take (i := 8) (v := ?v12) rfl (by kernel_rfl) (by kernel_rfl) (by kernel_rfl) (fun _ _ _ h => h) (Or.inl ⟨by kernel_rfl, ?hy12⟩) (by assumption) ?_
          case hy12 => (intro w9 hS9; (try dsimp only at hS9); go_simp; (try with_reducible rfl))
          try simp only [Act.put, List.getElem_toArray, List.getElem_cons_succ, List.getElem_cons_zero, List.setIfInBounds_toArray, List.set_cons_zero, List.set_cons_succ]
          obtain ⟨t0, f0⟩ := H9.out.c0
          obtain ⟨t1, f1⟩ := H9.out.c1
          have HBz := Lib.hid ((HB5.out.setCell (p := ⟨w5.heap.size + 1, 0, none⟩) (by show w5.heap.size ≤ w5.heap.size + 1; omega) (.slice (some ⟨gA, 0, none⟩) x.affixes.length cA)).setCell (p := ⟨w5.heap.size + 1, 1, none⟩) (by show w5.heap.size ≤ w5.heap.size + 1; omega) (.slice (some ⟨gB, 0, none⟩) x.stems.length cB))
          refine wpAnyH_ready (rs := [10]) (by kernel_rfl) (by simp) ?_
          refine AllReadyH.cons rfl (fun K9 hK9 => ?_) AllReadyH.nil
          rw [if_pos (by rfl)]
          go_simp
          refine hK9.out _ _ (⟨cell_below HBz.out x5, cell_below HBz.out x6⟩) (fun hHe => ?_)
          clear hK9 K9
          try simp only [Act.put, List.getElem_toArray, List.getElem_cons_succ, List.getElem_cons_zero, List.setIfInBounds_toArray, List.set_cons_zero, List.set_cons_succ]
          refine wpAnyH_done (by kernel_rfl) ?_ _
          go_wp2_with fail
          go_meet
          exact ⟨w5.heap.size + 1, rfl, gA, cA, gB, cB, (H9.out.set0 _).set1 _, ((OwnA.set (own_monoR HA.out (by omega)) (by omega)).set (by omega) : OwnA _ (ga + 1) _ _ _), ((OwnT.set (own_monoR HS.out (by omega)) (by omega)).set (by omega) : OwnT _ (ga + 1) _ _ _), hu0, fun j h1 h2 => (HUS.out j h1 h2).2, by omega, hAB, by omega, by omega, HBz.out.mono (by omega)⟩
    · rw [if_pos (by rfl)]
      have HB1 := Lib.hid (HB0.out.trans ((one_belowQ w5.drew (.cells #[] 59)).mono HB0.out.size))
      have HE2 : Hid (OwnT (w5.drew.alloc (.cells #[] 59)) w5.heap.size (.slice (some ⟨w5.heap.size, 0, none⟩) 0 0) 0 []) := Lib.hid (by have h : OwnT (w5.drew.alloc (.cells #[] 59)) w5.heap.size _ 0 [] := World.ownsRow_made (size := 2) (e := 59) (base := w5.heap.size) w5.drew #[] 0 HB0.out.size (by unfold maxLen; omega) (by simp); simpa using h)
      go_simp
      refine hK9.out _ _ (⟨cell_below HB1.out x5, cell_below HB1.out x6⟩) (fun hHd1 => ?_)
      clear hK9 K9
      try simp only [Act.put, List.getElem_toArray, List.getElem_cons_succ, List.getElem_cons_zero, List.setIfInBounds_toArray, List.set_cons_zero, List.set_cons_succ]
      refine wpAnyH_ready (rs := [0, 9]) (by kernel_rfl) (by simp) ?_
      refine AllReadyH.cons rfl (fun K9 hK9 => ?_) (AllReadyH.cons rfl (fun K9 hK9 => ?_) (AllReadyH.nil))
      · rw [if_pos (by rfl)]
        have HB2 := Lib.hid (HB1.out.trans ((one_belowQ (w5.drew.alloc (.cells #[] 59)) (.cells #[] 51)).mono HB1.out.size))
        have HE2 := Lib.hid (HE2.out.below (one_belowQ (w5.drew.alloc (.cells #[] 59)) (.cells #[] 51)))
        have HE1 : Hid (OwnA ((w5.drew.alloc (.cells #[] 59)).alloc (.cells #[] 51)) w5.heap.size (.slice (some ⟨w5.heap.size + 1, 0, none⟩) 0 0) 0 []) := Lib.hid (by have h : OwnA ((w5.drew.alloc (.cells #[] 59)).alloc (.cells #[] 51)) w5.heap.size _ 0 [] := World.ownsRow_made (size := 5) (e := 51) (base := w5.heap.size) (w5.drew.alloc (.cells #[] 59)) #[] 0 HB1.out.size (by unfold maxLen; omega) (by simp); simpa using h)
        go_simp
        refine hK9.out _ _ (⟨cell_below HB2.out x5, cell_below HB2.out x6⟩) (fun hHd2 => ?_)
        clear hK9 K9
        try simp only [Act.put, List.getElem_toArray, List.getElem_cons_succ, List.getElem_cons_zero, List.setIfInBounds_toArray, List.set_cons_zero, List.set_cons_succ]
        refine wpAnyH_ready (rs := [3, 9]) (by kernel_rfl) (by simp) ?_
        refine AllReadyH.cons rfl (fun K9 hK9 => ?_) (AllReadyH.cons rfl (fun K9 hK9 => ?_) (AllReadyH.nil))
        · refine step_copy ?_ (.tmp 11) (.tmp 13) 24 ?_ w5.heap.size 51 (.agg #[.string ⟨#[]⟩, .bool false, .string ⟨#[]⟩, .string ⟨#[]⟩, .string ⟨#[]⟩]) 5 72 Tryz.underlying24 infoAffS rfl (by decide) (w5.heap.size + 1) 0 0 [] ?_ HE1.out a1 x.affixes.length c1 (x.affixes.flatMap affL) ?_ (HRA.out.below HB2.out) (affs_oneQ _) (by omega) (by decide) HB2.out.size ?_; rfl; rfl; rfl; rfl
          intro gA cA wa3 how hgr hloc
          simp only [Nat.zero_add, List.nil_append] at how
          simp only [Nat.zero_add]
          have hzz : w5.heap.size + 1 + 1 ≤ wa3.heap.size := by have h := hgr.size; simpa using h
          have hlo : gA = w5.heap.size + 1 ∨ gA = w5.heap.size + 1 + 1 := hloc.imp id (fun h => by simpa using h)
          have HA : Hid (OwnA wa3 w5.heap.size (.slice (some ⟨gA, 0, none⟩) x.affixes.length cA) x.affixes.length (x.affixes.flatMap affL)) := Lib.hid how
          have hgAlt := HA.out.lt
          have hgr : (((w5.drew.alloc (.cells #[] 59)).alloc (.cells #[] 51))).grownBy wa3 (some (w5.heap.size + 1)) := hgr
          have HB3 := Lib.hid (HB2.out.grown hgr HB2.out.size (fun q hq => by have h : w5.heap.size + 1 = q := Option.some.inj hq; omega))
          have HE2 := Lib.hid (HE2.out.grown hgr (by omega))
          refine hK9.out _ _ (⟨cell_below HB3.out x5, cell_below HB3.out x6⟩) (fun hHd3 => ?_)
          clear hK9 K9
          try simp only [Act.put, List.getElem_toArray, List.getElem_cons_succ, List.getElem_cons_zero, List.setIfInBounds_toArray, List.set_cons_zero, List.set_cons_succ]
          refine wpAnyH_ready (rs := [7, 9]) (by kernel_rfl) (by simp) ?_
          refine AllReadyH.cons rfl (fun K9 hK9 => ?_) (AllReadyH.cons rfl (fun K9 hK9 => ?_) (AllReadyH.nil))
          · refine step_copy ?_ (.tmp 15) (.tmp 17) 25 ?_ w5.heap.size 59 (.agg #[.string ⟨#[]⟩, .slice none 0 0]) 2 40 Tryz.underlying25 infoStmS rfl (by decide) (w5.heap.size) 0 0 [] ?_ HE2.out a2 x.stems.length c2 ((x.stems.zip us0).flatMap stemL) ?_ (HRS.out.below HB3.out) (stems_oneQ _ _ HON.out) (by omega) (by decide) HB3.out.size ?_; rfl; rfl; rfl; rfl
            intro gB cB wa7 how hgr hloc
            simp only [Nat.zero_add, List.nil_append] at how
            simp only [Nat.zero_add]
            have hzz : wa3.heap.size ≤ wa7.heap.size := by have h := hgr.size; simpa using h
            have hlo : gB = w5.heap.size ∨ gB = wa3.heap.size := hloc.imp id (fun h => by simpa using h)
            have HS : Hid (OwnT wa7 w5.heap.size (.slice (some ⟨gB, 0, none⟩) x.stems.length cB) x.stems.length ((x.stems.zip us0).flatMap stemL)) := Lib.hid how
            have hgBlt := HS.out.lt
            have hgr : (wa3).grownBy wa7 (some (w5.heap.size)) := hgr
            have HB4 := Lib.hid (HB3.out.grown hgr HB3.out.size (fun q hq => by have h : w5.heap.size = q := Option.some.inj hq; omega))
            have HA := Lib.hid (HA.out.grown hgr (by omega))
            have hAB : gA ≠ gB := by have := HA.out.lt; omega
            refine hK9.out _ _ (⟨cell_below HB4.out x5, cell_below HB4.out x6⟩) (fun hHd4 => ?_)
            clear hK9 K9
            try simp only [Act.put, List.getElem_toArray, List.getElem_cons_succ, List.getElem_cons_zero, List.setIfInBounds_toArray, List.set_cons_zero, List.set_cons_succ]
            refine wpAnyH_take (i := 8) (v := ?v13) rfl (by kernel_rfl) (by kernel_rfl) (by kernel_rfl) (fun _ _ _ h => h) (Or.inl ⟨by kernel_rfl, ?hy13⟩) (by assumption) ?_
            case hy13 => (intro w9 hS9; (try dsimp only at hS9); go_simp; (try with_reducible rfl))
            try simp only [Act.put, List.getElem_toArray, List.getElem_cons_succ, List.getElem_cons_zero, List.setIfInBounds_toArray, List.set_cons_zero, List.set_cons_succ]
            refine wpAnyH_ready (rs := [9]) (by kernel_rfl) (by simp) ?_
            refine AllReadyH.cons rfl (fun K9 hK9 => ?_) AllReadyH.nil
            rw [if_pos (by rfl)]
            have HB5 := Lib.hid (HB4.out.trans ((one_belowQ wa7 (.cells #[.slice none 0 0, .slice none 0 0] 27)).mono HB4.out.size))
            have HA := Lib.hid (HA.out.below (one_belowQ wa7 (.cells #[.slice none 0 0, .slice none 0 0] 27)))
            have HS := Lib.hid (HS.out.below (one_belowQ wa7 (.cells #[.slice none 0 0, .slice none 0 0] 27)))
            have H9 : Hid (BoxG (wa7.alloc (.cells #[.slice none 0 0, .slice none 0 0] 27)) (wa7.heap.size) (.slice none 0 0) (.slice none 0 0)) := Lib.hid (by have h := heap_alloc_new wa7 (.cells #[.slice none 0 0, .slice none 0 0] 27); simpa [BoxG] using h)
            go_simp
            refine hK9.out _ _ (⟨cell_below HB5.out x5, cell_below HB5.out x6⟩) (fun hHd5 => ?_)
            clear hK9 K9
            try simp only [Act.put, List.getElem_toArray, List.getElem_cons_succ, List.getElem_cons_zero, List.setIfInBounds_toArray, List.set_cons_zero, List.set_cons_succ]
            obtain ⟨t0, f0⟩ := H9.out.c0
            obtain ⟨t1, f1⟩ := H9.out.c1
            have hbp := one_belowQ wa7 (.cells #[(.slice (some ⟨gA, 0, none⟩) x.affixes.length cA), (.slice (some ⟨gB, 0, none⟩) x.stems.length cB)] 27)
            have HBz := Lib.hid (HB4.out.trans (hbp.mono HB4.out.size))
            refine wpAnyH_ready (rs := [10]) (by kernel_rfl) (by simp) ?_
            refine AllReadyH.cons rfl (fun K9 hK9 => ?_) AllReadyH.nil
            rw [if_pos (by rfl)]
            go_simp
            refine hK9.out _ _ (⟨cell_below HBz.out x5, cell_below HBz.out x6⟩) (fun hHe => ?_)
            clear hK9 K9
            try simp only [Act.put, List.getElem_toArray, List.getElem_cons_succ, List.getElem_cons_zero, List.setIfInBounds_toArray, List.set_cons_zero, List.set_cons_succ]
            refine wpAnyH_done (by kernel_rfl) ?_ _
            go_wp2_with fail
            go_meet
            skip
            refine ⟨wa7.heap.size, rfl, gA, cA, gB, cB, ?_, own_frame (own_monoR HA.out (by omega)) (fun q hq => ?_), own_frame (own_monoR HS.out (by omega)) (fun q hq => ?_), hu0, fun j h1 h2 => (HUS.out j h1 h2).2, by omega, hAB, by omega, by omega, HBz.out.mono (by omega)⟩
            · have h := heap_alloc_new wa7 (.cells #[(.slice (some ⟨gA, 0, none⟩) x.affixes.length cA), (.slice (some ⟨gB, 0, none⟩) x.stems.length cB)] 27); simpa [BoxG] using h
            · have e : gA = q := Option.some.inj hq; exact alloc_sameQ wa7 _ _ q (by omega)
            · have e : gB = q := Option.some.inj hq; exact alloc_sameQ wa7 _ _ q (by omega)
          · rw [if_pos (by rfl)]
            have HB4 := Lib.hid (HB3.out.trans ((one_belowQ wa3 (.cells #[.slice none 0 0, .slice none 0 0] 27)).mono HB3.out.size))
            have HE2 := Lib.hid (HE2.out.below (one_belowQ wa3 (.cells #[.slice none 0 0, .slice none 0 0] 27)))
            have HA := Lib.hid (HA.out.below (one_belowQ wa3 (.cells #[.slice none 0 0, .slice none 0 0] 27)))
            have H9 : Hid (BoxG (wa3.alloc (.cells #[.slice none 0 0, .slice none 0 0] 27)) (wa3.heap.size) (.slice none 0 0) (.slice none 0 0)) := Lib.hid (by have h := heap_alloc_new wa3 (.cells #[.slice none 0 0, .slice none 0 0] 27); simpa [BoxG] using h)
            go_simp
            refine hK9.out _ _ (⟨cell_below HB4.out x5, cell_below HB4.out x6⟩) (fun hHd4 => ?_)
            clear hK9 K9
            try simp only [Act.put, List.getElem_toArray, List.getElem_cons_succ, List.getElem_cons_zero, List.setIfInBounds_toArray, List.set_cons_zero, List.set_cons_succ]
            refine wpAnyH_ready (rs := [7]) (by kernel_rfl) (by simp) ?_
            refine AllReadyH.cons rfl (fun K9 hK9 => ?_) AllReadyH.nil
            refine step_copy ?_ (.tmp 15) (.tmp 17) 25 ?_ w5.heap.size 59 (.agg #[.string ⟨#[]⟩, .slice none 0 0]) 2 40 Tryz.underlying25 infoStmS rfl (by decide) (w5.heap.size) 0 0 [] ?_ HE2.out a2 x.stems.length c2 ((x.stems.zip us0).flatMap stemL) ?_ (HRS.out.below HB4.out) (stems_oneQ _ _ HON.out) (by omega) (by decide) HB4.out.size ?_; rfl; rfl; rfl; rfl
            intro gB cB wa7 how hgr hloc
            simp only [Nat.zero_add, List.nil_append] at how
            simp only [Nat.zero_add]
            have hzz : wa3.heap.size + 1 ≤ wa7.heap.size := by have h := hgr.size; simpa using h
            have hlo : gB = w5.heap.size ∨ gB = wa3.heap.size + 1 := hloc.imp id (fun h => by simpa using h)
            have HS : Hid (OwnT wa7 w5.heap.size (.slice (some ⟨gB, 0, none⟩) x.stems.length cB) x.stems.length ((x.stems.zip us0).flatMap stemL)) := Lib.hid how
            have hgBlt := HS.out.lt
            have hgr : ((wa3.alloc (.cells #[.slice none 0 0, .slice none 0 0] 27))).grownBy wa7 (some (w5.heap.size)) := hgr
            have HB5 := Lib.hid (HB4.out.grown hgr HB4.out.size (fun q hq => by have h : w5.heap.size = q := Option.some.inj hq; omega))
            have HA := Lib.hid (HA.out.grown hgr (by omega))
            have hAB : gA ≠ gB := by have := HA.out.lt; omega
            have H9 := Lib.hid (H9.out.grownNe hgr (fun q hq => by have h : w5.heap.size = q := Option.some.inj hq; omega))
            have hgBx : gB ≠ wa3.heap.size := by omega
            refine hK9.out _ _ (⟨cell_below HB5.out x5, cell_below HB5.out x6⟩) (fun hHd5 => ?_)
            clear hK9 K9
            try simp only [Act.put, List.getElem_toArray, List.getElem_cons_succ, List.getElem_cons_zero, List.setIfInBounds_toArray, List.set_cons_zero, List.set_cons_succ]
            refine wpAnyH_take (i := 8) (v := ?v14) rfl (by kernel_rfl) (by kernel_rfl) (by kernel_rfl) (fun _ _ _ h => h) (Or.inl ⟨by kernel_rfl, ?hy14⟩) (by assumption) ?_
            case hy14 => (intro w9 hS9; (try dsimp only at hS9); go_simp; (try with_reducible rfl))
            try simp only [Act.put, List.getElem_toArray, List.getElem_cons_succ, List.getElem_cons_zero, List.setIfInBounds_toArray, List.set_cons_zero, List.set_cons_succ]
            obtain ⟨t0, f0⟩ := H9.out.c0
            obtain ⟨t1, f1⟩ := H9.out.c1
            have HBz := Lib.hid ((HB5.out.setCell (p := ⟨wa3.heap.size, 0, none⟩) (by show w5.heap.size ≤ wa3.heap.size; omega) (.slice (some ⟨gA, 0, none⟩) x.affixes.length cA)).setCell (p := ⟨wa3.heap.size, 1, none⟩) (by show w5.heap.size ≤ wa3.heap.size; omega) (.slice (some ⟨gB, 0, none⟩) x.stems.length cB))
            refine wpAnyH_ready (rs := [10]) (by kernel_rfl) (by simp) ?_
            refine AllReadyH.cons rfl (fun K9 hK9 => ?_) AllReadyH.nil
            rw [if_pos (by rfl)]
            go_simp
            refine hK9.out _ _ (⟨cell_below HBz.out x5, cell_below HBz.out x6⟩) (fun hHe => ?_)
            clear hK9 K9
            try simp only [Act.put, List.getElem_toArray, List.getElem_cons_succ, List.getElem_cons_zero, List.setIfInBounds_toArray, List.set_cons_zero, List.set_cons_succ]
            refine wpAnyH_done (by kernel_rfl) ?_ _
            go_wp2_with fail
            go_meet
            exact ⟨wa3.heap.size, rfl, gA, cA, gB, cB, (H9.out.set0 _).set1 _, ((OwnA.set (own_monoR HA.out (by omega)) (by omega)).set (by omega) : OwnA _ (ga + 1) _ _ _), ((OwnT.set (own_monoR HS.out (by omega)) (by omega)).set (by omega) : OwnT _ (ga + 1) _ _ _), hu0, fun j h1 h2 => (HUS.out j h1 h2).2, by omega, hAB, by omega, by omega, HBz.out.mono (by omega)⟩
        · rw [if_pos (by rfl)]
          have HB3 := Lib.hid (HB2.out.trans ((one_belowQ ((w5.drew.alloc (.cells #[] 59)).alloc (.cells #[] 51)) (.cells #[.slice none 0 0, .slice none 0 0] 27)).mono HB2.out.size))
          have HE1 := Lib.hid (HE1.out.below (one_belowQ ((w5.drew.alloc (.cells #[] 59)).alloc (.cells #[] 51)) (.cells #[.slice none 0 0, .slice none 0 0] 27)))
          have HE2 := Lib.hid (HE2.out.below (one_belowQ ((w5.drew.alloc (.cells #[] 59)).alloc (.cells #[] 51)) (.cells #[.slice none 0 0, .slice none 0 0] 27)))
          have H9 : Hid (BoxG (((w5.drew.alloc (.cells #[] 59)).alloc (.cells #[] 51)).alloc (.cells #[.slice none 0 0, .slice none 0 0] 27)) (w5.heap.size + 1 + 1) (.slice none 0 0) (.slice none 0 0)) := Lib.hid (by have h := heap_alloc_new ((w5.drew.alloc (.cells #[] 59)).alloc (.cells #[] 51)) (.cells #[.slice none 0 0, .slice none 0 0] 27); simpa [BoxG] using h)
          go_simp
          refine hK9.out _ _ (⟨cell_below HB3.out x5, cell_below HB3.out x6⟩) (fun hHd3 => ?_)
          clear hK9 K9
          try simp only [Act.put, List.getElem_toArray, List.getElem_cons_succ, List.getElem_cons_zero, List.setIfInBounds_toArray, List.set_cons_zero, List.set_cons_succ]
          refine wpAnyH_ready (rs := [3]) (by kernel_rfl) (by simp) ?_
          refine AllReadyH.cons rfl (fun K9 hK9 => ?_) AllReadyH.nil
          refine step_copy ?_ (.tmp 11) (.tmp 13) 24 ?_ w5.heap.size 51 (.agg #[.string ⟨#[]⟩, .bool false, .string ⟨#[]⟩, .string ⟨#[]⟩, .string ⟨#[]⟩]) 5 72 Tryz.underlying24 infoAffS rfl (by decide) (w5.heap.size + 1) 0 0 [] ?_ HE1.out a1 x.affixes.length c1 (x.affixes.flatMap affL) ?_ (HRA.out.below HB3.out) (affs_oneQ _) (by omega) (by decide) HB3.out.size ?_; rfl; rfl; rfl; rfl
          intro gA cA wa3 how hgr hloc
          simp only [Nat.zero_add, List.nil_append] at how
          simp only [Nat.zero_add]
          have hzz : w5.heap.size + 1 + 1 + 1 ≤ wa3.heap.size := by have h := hgr.size; simpa using h
          have hlo : gA = w5.heap.size + 1 ∨ gA = w5.heap.size + 1 + 1 + 1 := hloc.imp id (fun h => by simpa using h)
          have HA : Hid (OwnA wa3 w5.heap.size (.slice (some ⟨gA, 0, none⟩) x.affixes.length cA) x.affixes.length (x.affixes.flatMap affL)) := Lib.hid how
          have hgAlt := HA.out.lt
          have hgr : ((((w5.drew.alloc (.cells #[] 59)).alloc (.cells #[] 51)).alloc (.cells #[.slice none 0 0, .slice none 0 0] 27))).grownBy wa3 (some (w5.heap.size + 1)) := hgr
          have HB4 := Lib.hid (HB3.out.grown hgr HB3.out.size (fun q hq => by have h : w5.heap.size + 1 = q := Option.some.inj hq; omega))
          have HE2 := Lib.hid (HE2.out.grown hgr (by omega))
          have H9 := Lib.hid (H9.out.grownNe hgr (fun q hq => by have h : w5.heap.size + 1 = q := Option.some.inj hq; omega))
          have hgAx : gA ≠ w5.heap.size + 1 + 1 := by omega
          refine hK9.out _ _ (⟨cell_below HB4.out x5, cell_below HB4.out x6⟩) (fun hHd4 => ?_)
          clear hK9 K9
          try simp only [Act.put, List.getElem_toArray, List.getElem_cons_succ, List.getElem_cons_zero, List.setIfInBounds_toArray, List.set_cons_zero, List.set_cons_succ]
          refine wpAnyH_ready (rs := [7]) (by kernel_rfl) (by simp) ?_
          refine AllReadyH.cons rfl (fun K9 hK9 => ?_) AllReadyH.nil
          refine step_copy ?_ (.tmp 15) (.tmp 17) 25 ?_ w5.heap.size 59 (.agg #[.string ⟨#[]⟩, .slice none 0 0]) 2 40 Tryz.underlying25 infoStmS rfl (by decide) (w5.heap.size) 0 0 [] ?_ HE2.out a2 x.stems.length c2 ((x.stems.zip us0).flatMap stemL) ?_ (HRS.out.below HB4.out) (stems_oneQ _ _ HON.out) (by omega) (by decide) HB4.out.size ?_; rfl; rfl; rfl; rfl
          intro gB cB wa7 how hgr hloc
          simp only [Nat.zero_add, List.nil_append] at how
          simp only [Nat.zero_add]
          have hzz : wa3.heap.size ≤ wa7.heap.size := by have h := hgr.size; simpa using h
          have hlo : gB = w5.heap.size ∨ gB = wa3.heap.size := hloc.imp id (fun h => by simpa using h)
          have HS : Hid (OwnT wa7 w5.heap.size (.slice (some ⟨gB, 0, none⟩) x.stems.length cB) x.stems.length ((x.stems.zip us0).flatMap stemL)) := Lib.hid how
          have hgBlt := HS.out.lt
          have hgr : (wa3).grownBy wa7 (some (w5.heap.size)) := hgr
          have HB5 := Lib.hid (HB4.out.grown hgr HB4.out.size (fun q hq => by have h : w5.heap.size = q := Option.some.inj hq; omega))
          have HA := Lib.hid (HA.out.grown hgr (by omega))
          have hAB : gA ≠ gB := by have := HA.out.lt; omega
          have H9 := Lib.hid (H9.out.grownNe hgr (fun q hq => by have h : w5.heap.size = q := Option.some.inj hq; omega))
          have hgBx : gB ≠ w5.heap.size + 1 + 1 := by omega
          refine hK9.out _ _ (⟨cell_below HB5.out x5, cell_below HB5.out x6⟩) (fun hHd5 => ?_)
          clear hK9 K9
          try simp only [Act.put, List.getElem_toArray, List.getElem_cons_succ, List.getElem_cons_zero, List.setIfInBounds_toArray, List.set_cons_zero, List.set_cons_succ]
          refine wpAnyH_take (i := 8) (v := ?v15) rfl (by kernel_rfl) (by kernel_rfl) (by kernel_rfl) (fun _ _ _ h => h) (Or.inl ⟨by kernel_rfl, ?hy15⟩) (by assumption) ?_
          case hy15 => (intro w9 hS9; (try dsimp only at hS9); go_simp; (try with_reducible rfl))
          try simp only [Act.put, List.getElem_toArray, List.getElem_cons_succ, List.getElem_cons_zero, List.setIfInBounds_toArray, List.set_cons_zero, List.set_cons_succ]
          obtain ⟨t0, f0⟩ := H9.out.c0
          obtain ⟨t1, f1⟩ := H9.out.c1
          have HBz := Lib.hid ((HB5.out.setCell (p := ⟨w5.heap.size + 1 + 1, 0, none⟩) (by show w5.heap.size ≤ w5.heap.size + 1 + 1; omega) (.slice (some ⟨gA, 0, none⟩) x.affixes.length cA)).setCell (p := ⟨w5.heap.size + 1 + 1, 1, none⟩) (by show w5.heap.size ≤ w5.heap.size + 1 + 1; omega) (.slice (some ⟨gB, 0, none⟩) x.stems.length cB))
          refine wpAnyH_ready (rs := [10]) (by kernel_rfl) (by simp) ?_
          refine AllReadyH.cons rfl (fun K9 hK9 => ?_) AllReadyH.nil
          rw [if_pos (by rfl)]
          go_simp
          refine hK9.out _ _ (⟨cell_below HBz.out x5, cell_below HBz.out x6⟩) (fun hHe => ?_)
          clear hK9 K9
          try simp only [Act.put, List.getElem_toArray, List.getElem_cons_succ, List.getElem_cons_zero, List.setIfInBounds_toArray, List.set_cons_zero, List.set_cons_succ]
          refine wpAnyH_done (by kernel_rfl) ?_ _
          go_wp2_with fail
          go_meet
          exact ⟨w5.heap.size + 1 + 1, rfl, gA, cA, gB, cB, (H9.out.set0 _).set1 _, ((OwnA.set (own_monoR HA.out (by omega)) (by omega)).set (by omega) : OwnA _ (ga + 1) _ _ _), ((OwnT.set (own_monoR HS.out (by omega)) (by omega)).set (by omega) : OwnT _ (ga + 1) _ _ _), hu0, fun j h1 h2 => (HUS.out j h1 h2).2, by omega, hAB, by omega, by omega, HBz.out.mono (by omega)⟩
      · rw [if_pos (by rfl)]
        have HB2 := Lib.hid (HB1.out.trans ((one_belowQ (w5.drew.alloc (.cells #[] 59)) (.cells #[.slice none 0 0, .slice none 0 0] 27)).mono HB1.out.size))
        have HE2 := Lib.hid (HE2.out.below (one_belowQ (w5.drew.alloc (.cells #[] 59)) (.cells #[.slice none 0 0, .slice none 0 0] 27)))
        have H9 : Hid (BoxG ((w5.drew.alloc (.cells #[] 59)).alloc (.cells #[.slice none 0 0, .slice none 0 0] 27)) (w5.heap.size + 1) (.slice none 0 0) (.slice none 0 0)) := Lib.hid (by have h := heap_alloc_new (w5.drew.alloc (.cells #[] 59)) (.cells #[.slice none 0 0, .slice none 0 0] 27); simpa [BoxG] using h)
        go_simp
        refine hK9.out _ _ (⟨cell_below HB2.out x5, cell_below HB2.out x6⟩) (fun hHd2 => ?_)
        clear hK9 K9
        try simp only [Act.put, List.getElem_toArray, List.getElem_cons_succ, List.getElem_cons_zero, List.setIfInBounds_toArray, List.set_cons_zero, List.set_cons_succ]
        refine wpAnyH_ready (rs := [0]) (by kernel_rfl) (by simp) ?_
        refine AllReadyH.cons rfl (fun K9 hK9 => ?_) AllReadyH.nil
        rw [if_pos (by rfl)]
        have HB3 := Lib.hid (HB2.out.trans ((one_belowQ ((w5.drew.alloc (.cells #[] 59)).alloc (.cells #[.slice none 0 0, .slice none 0 0] 27)) (.cells #[] 51)).mono HB2.out.size))
        have HE2 := Lib.hid (HE2.out.below (one_belowQ ((w5.drew.alloc (.cells #[] 59)).alloc (.cells #[.slice none 0 0, .slice none 0 0] 27)) (.cells #[] 51)))
        have H9 := Lib.hid (H9.out.below (one_belowQ ((w5.drew.alloc (.cells #[] 59)).alloc (.cells #[.slice none 0 0, .slice none 0 0] 27)) (.cells #[] 51)))
        have HE1 : Hid (OwnA (((w5.drew.alloc (.cells #[] 59)).alloc (.cells #[.slice none 0 0, .slice none 0 0] 27)).alloc (.cells #[] 51)) w5.heap.size (.slice (some ⟨w5.heap.size + 1 + 1, 0, none⟩) 0 0) 0 []) := Lib.hid (by have h : OwnA (((w5.drew.alloc (.cells #[] 59)).alloc (.cells #[.slice none 0 0, .slice none 0 0] 27)).alloc (.cells #[] 51)) w5.heap.size _ 0 [] := World.ownsRow_made (size := 5) (e := 51) (base := w5.heap.size) ((w5.drew.alloc (.cells #[] 59)).alloc (.cells #[.slice none 0 0, .slice none 0 0] 27)) #[] 0 HB2.out.size (by unfold maxLen; omega) (by simp); simpa using h)
        go_simp
        refine hK9.out _ _ (⟨cell_below HB3.out x5, cell_below HB3.out x6⟩) (fun hHd3 => ?_)
        clear hK9 K9
        try simp only [Act.put, List.getElem_toArray, List.getElem_cons_succ, List.getElem_cons_zero, List.setIfInBounds_toArray, List.set_cons_zero, List.set_cons_succ]
        refine wpAnyH_ready (rs := [3]) (by kernel_rfl) (by simp) ?_
        refine AllReadyH.cons rfl (fun K9 hK9 => ?_) AllReadyH.nil
        refine step_copy ?_ (.tmp 11) (.tmp 13) 24 ?_ w5.heap.size 51 (.agg #[.string ⟨#[]⟩, .bool false, .string ⟨#[]⟩, .string ⟨#[]⟩, .string ⟨#[]⟩]) 5 72 Tryz.underlying24 infoAffS rfl (by decide) (w5.heap.size + 1 + 1) 0 0 [] ?_ HE1.out a1 x.affixes.length c1 (x.affixes.flatMap affL) ?_ (HRA.out.below HB3.out) (affs_oneQ _) (by omega) (by decide) HB3.out.size ?_; rfl; rfl; rfl; rfl
        intro gA cA wa3 how hgr hloc
        simp only [Nat.zero_add, List.nil_append] at how
        simp only [Nat.zero_add]
        have hzz : w5.heap.size + 1 + 1 + 1 ≤ wa3.heap.size := by have h := hgr.size; simpa using h
        have hlo : gA = w5.heap.size + 1 + 1 ∨ gA = w5.heap.size + 1 + 1 + 1 := hloc.imp id (fun h => by simpa using h)
        have HA : Hid (OwnA wa3 w5.heap.size (.slice (some ⟨gA, 0, none⟩) x.affixes.length cA) x.affixes.length (x.affixes.flatMap affL)) := Lib.hid how
        have hgAlt := HA.out.lt
        have hgr : ((((w5.drew.alloc (.cells #[] 59)).alloc (.cells #[.slice none 0 0, .slice none 0 0] 27)).alloc (.cells #[] 51))).grownBy wa3 (some (w5.heap.size + 1 + 1)) := hgr
        have HB4 := Lib.hid (HB3.out.grown hgr HB3.out.size (fun q hq => by have h : w5.heap.size + 1 + 1 = q := Option.some.inj hq; omega))
        have HE2 := Lib.hid (HE2.out.grown hgr (by omega))
        have H9 := Lib.hid (H9.out.grownNe hgr (fun q hq => by have h : w5.heap.size + 1 + 1 = q := Option.some.inj hq; omega))
        have hgAx : gA ≠ w5.heap.size + 1 := by omega
        refine hK9.out _ _ (⟨cell_below HB4.out x5, cell_below HB4.out x6⟩) (fun hHd4 => ?_)
        clear hK9 K9
        try simp only [Act.put, List.getElem_toArray, List.getElem_cons_succ, List.getElem_cons_zero, List.setIfInBounds_toArray, List.set_cons_zero, List.set_cons_succ]
        refine wpAnyH_ready (rs := [7]) (by kernel_rfl) (by simp) ?_
        refine AllReadyH.cons rfl (fun K9 hK9 => ?_) AllReadyH.nil
        refine step_copy ?_ (.tmp 15) (.tmp 17) 25 ?_ w5.heap.size 59 (.agg #[.string ⟨#[]⟩, .slice none 0 0]) 2 40 Tryz.underlying25 infoStmS rfl (by decide) (w5.heap.size) 0 0 [] ?_ HE2.out a2 x.stems.length c2 ((x.stems.zip us0).flatMap stemL) ?_ (HRS.out.below HB4.out) (stems_oneQ _ _ HON.out) (by omega) (by decide) HB4.out.size ?_; rfl; rfl; rfl; rfl
        intro gB cB wa7 how hgr hloc
        simp only [Nat.zero_add, List.nil_append] at how
        simp only [Nat.zero_add]
        have hzz : wa3.heap.size ≤ wa7.heap.size := by have h := hgr.size; simpa using h
        have hlo : gB = w5.heap.size ∨ gB = wa3.heap.size := hloc.imp id (fun h => by simpa using h)
        have HS : Hid (OwnT wa7 w5.heap.size (.slice (some ⟨gB, 0, none⟩) x.stems.length cB) x.stems.length ((x.stems.zip us0).flatMap stemL)) := Lib.hid how
        have hgBlt := HS.out.lt
        have hgr : (wa3).grownBy wa7 (some (w5.heap.size)) := hgr
        have HB5 := Lib.hid (HB4.out.grown hgr HB4.out.size (fun q hq => by have h : w5.heap.size = q := Option.some.inj hq; omega))
        have HA := Lib.hid (HA.out.grown hgr (by omega))
        have hAB : gA ≠ gB := by have := HA.out.lt; omega
        have H9 := Lib.hid (H9.out.grownNe hgr (fun q hq => by have h : w5.heap.size = q := Option.some.inj hq; omega))
        have hgBx : gB ≠ w5.heap.size + 1 := by omega
        refine hK9.out _ _ (⟨cell_below HB5.out x5, cell_below HB5.out x6⟩) (fun hHd5 => ?_)
        clear hK9 K9
        try simp only [Act.put, List.getElem_toArray, List.getElem_cons_succ, List.getElem_cons_zero, List.setIfInBounds_toArray, List.set_cons_zero, List.set_cons_succ]
        refine wpAnyH_take (i := 8) (v := ?v16) rfl (by kernel_rfl) (by kernel_rfl) (by kernel_rfl) (fun _ _ _ h => h) (Or.inl ⟨by kernel_rfl, ?hy16⟩) (by assumption) ?_
        case hy16 => (intro w9 hS9; (try dsimp only at hS9); go_simp; (try with_reducible rfl))
        try simp only [Act.put, List.getElem_toArray, List.getElem_cons_succ, List.getElem_cons_zero, List.setIfInBounds_toArray, List.set_cons_zero, List.set_cons_succ]
        obtain ⟨t0, f0⟩ := H9.out.c0
        obtain ⟨t1, f1⟩ := H9.out.c1
        have HBz := Lib.hid ((HB5.out.setCell (p := ⟨w5.heap.size + 1, 0, none⟩) (by show w5.heap.size ≤ w5.heap.size + 1; omega) (.slice (some ⟨gA, 0, none⟩) x.affixes.length cA)).setCell (p := ⟨w5.heap.size + 1, 1, none⟩) (by show w5.heap.size ≤ w5.heap.size + 1; omega) (.slice (some ⟨gB, 0, none⟩) x.stems.length cB))
        refine wpAnyH_ready (rs := [10]) (by kernel_rfl) (by simp) ?_
        refine AllReadyH.cons rfl (fun K9 hK9 => ?_) AllReadyH.nil
        rw [if_pos (by rfl)]
        go_simp
        refine hK9.out _ _ (⟨cell_below HBz.out x5, cell_below HBz.out x6⟩) (fun hHe => ?_)
        clear hK9 K9
        try simp only [Act.put, List.getElem_toArray, List.getElem_cons_succ, List.getElem_cons_zero, List.setIfInBounds_toArray, List.set_cons_zero, List.set_cons_succ]
        refine wpAnyH_done (by kernel_rfl) ?_ _
        go_wp2_with fail
        go_meet
        exact ⟨w5.heap.size + 1, rfl, gA, cA, gB, cB, (H9.out.set0 _).set1 _, ((OwnA.set (own_monoR HA.out (by omega)) (by omega)).set (by omega) : OwnA _ (ga + 1) _ _ _), ((OwnT.set (own_monoR HS.out (by omega)) (by omega)).set (by omega) : OwnT _ (ga + 1) _ _ _), hu0, fun j h1 h2 => (HUS.out j h1 h2).2, by omega, hAB, by omega, by omega, HBz.out.mono (by omega)⟩
    · rw [if_pos (by rfl)]
      have HB1 := Lib.hid (HB0.out.trans ((one_belowQ w5.drew (.cells #[.slice none 0 0, .slice none 0 0] 27)).mono HB0.out.size))
      have H9 : Hid (BoxG (w5.drew.alloc (.cells #[.slice none 0 0, .slice none 0 0] 27)) (w5.heap.size) (.slice none 0 0) (.slice none 0 0)) := Lib.hid (by have h := heap_alloc_new w5.drew (.cells #[.slice none 0 0, .slice none 0 0] 27); simpa [BoxG] using h)
      go_simp
      refine hK9.out _ _ (⟨cell_below HB1.out x5, cell_below HB1.out x6⟩) (fun hHd1 => ?_)
      clear hK9 K9
      try simp only [Act.put, List.getElem_toArray, List.getElem_cons_succ, List.getElem_cons_zero, List.setIfInBounds_toArray, List.set_cons_zero, List.set_cons_succ]
      refine wpAnyH_ready (rs := [0, 4]) (by kernel_rfl) (by simp) ?_
      refine AllReadyH.cons rfl (fun K9 hK9 => ?_) (AllReadyH.cons rfl (fun K9 hK9 => ?_) (AllReadyH.nil))
      · rw [if_pos (by rfl)]
        have HB2 := Lib.hid (HB1.out.trans ((one_belowQ (w5.drew.alloc (.cells #[.slice none 0 0, .slice none 0 0] 27)) (.cells #[] 51)).mono HB1.out.size))
        have H9 := Lib.hid (H9.out.below (one_belowQ (w5.drew.alloc (.cells #[.slice none 0 0, .slice none 0 0] 27)) (.cells #[] 51)))
        have HE1 : Hid (OwnA ((w5.drew.alloc (.cells #[.slice none 0 0, .slice none 0 0] 27)).alloc (.cells #[] 51)) w5.heap.size (.slice (some ⟨w5.heap.size + 1, 0, none⟩) 0 0) 0 []) := Lib.hid (by have h : OwnA ((w5.drew.alloc (.cells #[.slice none 0 0, .slice none 0 0] 27)).alloc (.cells #[] 51)) w5.heap.size _ 0 [] := World.ownsRow_made (size := 5) (e := 51) (base := w5.heap.size) (w5.drew.alloc (.cells #[.slice none 0 0, .slice none 0 0] 27)) #[] 0 HB1.out.size (by unfold maxLen; omega) (by simp); simpa using h)
        go_simp
        refine hK9.out _ _ (⟨cell_below HB2.out x5, cell_below HB2.out x6⟩) (fun hHd2 => ?_)
        clear hK9 K9
        try simp only [Act.put, List.getElem_toArray, List.getElem_cons_succ, List.getElem_cons_zero, List.setIfInBounds_toArray, List.set_cons_zero, List.set_cons_succ]
        refine wpAnyH_ready (rs := [3, 4]) (by kernel_rfl) (by simp) ?_
        refine AllReadyH.cons rfl (fun K9 hK9 => ?_) (AllReadyH.cons rfl (fun K9 hK9 => ?_) (AllReadyH.nil))
        · refine step_copy ?_ (.tmp 11) (.tmp 13) 24 ?_ w5.heap.size 51 (.agg #[.string ⟨#[]⟩, .bool false, .string ⟨#[]⟩, .string ⟨#[]⟩, .string ⟨#[]⟩]) 5 72 Tryz.underlying24 infoAffS rfl (by decide) (w5.heap.size + 1) 0 0 [] ?_ HE1.out a1 x.affixes.length c1 (x.affixes.flatMap affL) ?_ (HRA.out.below HB2.out) (affs_oneQ _) (by omega) (by decide) HB2.out.size ?_; rfl; rfl; rfl; rfl
          intro gA cA wa3 how hgr hloc
          simp only [Nat.zero_add, List.nil_append] at how
          simp only [Nat.zero_add]
          have hzz : w5.heap.size + 1 + 1 ≤ wa3.heap.size := by have h := hgr.size; simpa using h
          have hlo : gA = w5.heap.size + 1 ∨ gA = w5.heap.size + 1 + 1 := hloc.imp id (fun h => by simpa using h)
          have HA : Hid (OwnA wa3 w5.heap.size (.slice (some ⟨gA, 0, none⟩) x.affixes.length cA) x.affixes.length (x.affixes.flatMap affL)) := Lib.hid how
          have hgAlt := HA.out.lt
          have hgr : (((w5.drew.alloc (.cells #[.slice none 0 0, .slice none 0 0] 27)).alloc (.cells #[] 51))).grownBy wa3 (some (w5.heap.size + 1)) := hgr
          have HB3 := Lib.hid (HB2.out.grown hgr HB2.out.size (fun q hq => by have h : w5.heap.size + 1 = q := Option.some.inj hq; omega))
          have H9 := Lib.hid (H9.out.grownNe hgr (fun q hq => by have h : w5.heap.size + 1 = q := Option.some.inj hq; omega))
          have hgAx : gA ≠ w5.heap.size := by omega
          refine hK9.out _ _ (⟨cell_below HB3.out x5, cell_below HB3.out x6⟩) (fun hHd3 => ?_)
          clear hK9 K9
          try simp only [Act.put, List.getElem_toArray, List.getElem_cons_succ, List.getElem_cons_zero, List.setIfInBounds_toArray, List.set_cons_zero, List.set_cons_succ]
          refine wpAnyH_ready (rs := [4]) (by kernel_rfl) (by simp) ?_
          refine AllReadyH.cons rfl (fun K9 hK9 => ?_) AllReadyH.nil
          rw [if_pos (by rfl)]
          have HB4 := Lib.hid (HB3.out.trans ((one_belowQ wa3 (.cells #[] 59)).mono HB3.out.size))
          have HA := Lib.hid (HA.out.below (one_belowQ wa3 (.cells #[] 59)))
          have H9 := Lib.hid (H9.out.below (one_belowQ wa3 (.cells #[] 59)))
          have HE2 : Hid (OwnT (wa3.alloc (.cells #[] 59)) w5.heap.size (.slice (some ⟨wa3.heap.size, 0, none⟩) 0 0) 0 []) := Lib.hid (by have h : OwnT (wa3.alloc (.cells #[] 59)) w5.heap.size _ 0 [] := World.ownsRow_made (size := 2) (e := 59) (base := w5.heap.size) wa3 #[] 0 HB3.out.size (by unfold maxLen; omega) (by simp); simpa using h)
          go_simp
          refine hK9.out _ _ (⟨cell_below HB4.out x5, cell_below HB4.out x6⟩) (fun hHd4 => ?_)
          clear hK9 K9
          try simp only [Act.put, List.getElem_toArray, List.getElem_cons_succ, List.getElem_cons_zero, List.setIfInBounds_toArray, List.set_cons_zero, List.set_cons_succ]
          refine wpAnyH_ready (rs := [7]) (by kernel_rfl) (by simp) ?_
          refine AllReadyH.cons rfl (fun K9 hK9 => ?_) AllReadyH.nil
          refine step_copy ?_ (.tmp 15) (.tmp 17) 25 ?_ w5.heap.size 59 (.agg #[.string ⟨#[]⟩, .slice none 0 0]) 2 40 Tryz.underlying25 infoStmS rfl (by decide) (wa3.heap.size) 0 0 [] ?_ HE2.out a2 x.stems.length c2 ((x.stems.zip us0).flatMap stemL) ?_ (HRS.out.below HB4.out) (stems_oneQ _ _ HON.out) (by omega) (by decide) HB4.out.size ?_; rfl; rfl; rfl; rfl
          intro gB cB wa7 how hgr hloc
          simp only [Nat.zero_add, List.nil_append] at how
          simp only [Nat.zero_add]
          have hzz : wa3.heap.size + 1 ≤ wa7.heap.size := by have h := hgr.size; simpa using h
          have hlo : gB = wa3.heap.size ∨ gB = wa3.heap.size + 1 := hloc.imp id (fun h => by simpa using h)
          have HS : Hid (OwnT wa7 w5.heap.size (.slice (some ⟨gB, 0, none⟩) x.stems.length cB) x.stems.length ((x.stems.zip us0).flatMap stemL)) := Lib.hid how
          have hgBlt := HS.out.lt
          have hgr : ((wa3.alloc (.cells #[] 59))).grownBy wa7 (some (wa3.heap.size)) := hgr
          have HB5 := Lib.hid (HB4.out.grown hgr HB4.out.size (fun q hq => by have h : wa3.heap.size = q := Option.some.inj hq; omega))
          have HA := Lib.hid (HA.out.grown hgr (by omega))
          have hAB : gA ≠ gB := by have := HA.out.lt; omega
          have H9 := Lib.hid (H9.out.grownNe hgr (fun q hq => by have h : wa3.heap.size = q := Option.some.inj hq; omega))
          have hgBx : gB ≠ w5.heap.size := by omega
          refine hK9.out _ _ (⟨cell_below HB5.out x5, cell_below HB5.out x6⟩) (fun hHd5 => ?_)
          clear hK9 K9
          try simp only [Act.put, List.getElem_toArray, List.getElem_cons_succ, List.getElem_cons_zero, List.setIfInBounds_toArray, List.set_cons_zero, List.set_cons_succ]
          refine wpAnyH_take (i := 8) (v := ?v17) rfl (by kernel_rfl) (by kernel_rfl) (by kernel_rfl) (fun _ _ _ h => h) (Or.inl ⟨by kernel_rfl, ?hy17⟩) (by assumption) ?_
          case hy17 => (intro w9 hS9; (try dsimp only at hS9); go_simp; (try with_reducible rfl))
          try simp only [Act.put, List.getElem_toArray, List.getElem_cons_succ, List.getElem_cons_zero, List.setIfInBounds_toArray, List.set_cons_zero, List.set_cons_succ]
          obtain ⟨t0, f0⟩ := H9.out.c0
          obtain ⟨t1, f1⟩ := H9.out.c1
          have HBz := Lib.hid ((HB5.out.setCell (p := ⟨w5.heap.size, 0, none⟩) (by show w5.heap.size ≤ w5.heap.size; omega) (.slice (some ⟨gA, 0, none⟩) x.affixes.length cA)).setCell (p := ⟨w5.heap.size, 1, none⟩) (by show w5.heap.size ≤ w5.heap.size; omega) (.slice (some ⟨gB, 0, none⟩) x.stems.length cB))
          refine wpAnyH_ready (rs := [10]) (by kernel_rfl) (by simp) ?_
          refine AllReadyH.cons rfl (fun K9 hK9 => ?_) AllReadyH.nil
          rw [if_pos (by rfl)]
          go_simp
          refine hK9.out _ _ (⟨cell_below HBz.out x5, cell_below HBz.out x6⟩) (fun hHe => ?_)
          clear hK9 K9
          try simp only [Act.put, List.getElem_toArray, List.getElem_cons_succ, List.getElem_cons_zero, List.setIfInBounds_toArray, List.set_cons_zero, List.set_cons_succ]
          refine wpAnyH_done (by kernel_rfl) ?_ _
          go_wp2_with fail
          go_meet
          exact ⟨w5.heap.size, rfl, gA, cA, gB, cB, (H9.out.set0 _).set1 _, ((OwnA.set (own_monoR HA.out (by omega)) (by omega)).set (by omega) : OwnA _ (ga + 1) _ _ _), ((OwnT.set (own_monoR HS.out (by omega)) (by omega)).set (by omega) : OwnT _ (ga + 1) _ _ _), hu0, fun j h1 h2 => (HUS.out j h1 h2).2, by omega, hAB, by omega, by omega, HBz.out.mono (by omega)⟩
        · rw [if_pos (by rfl)]
          have HB3 := Lib.hid (HB2.out.trans ((one_belowQ ((w5.drew.alloc (.cells #[.slice none 0 0, .slice none 0 0] 27)).alloc (.cells #[] 51)) (.cells #[] 59)).mono HB2.out.size))
          have HE1 := Lib.hid (HE1.out.below (one_belowQ ((w5.drew.alloc (.cells #[.slice none 0 0, .slice none 0 0] 27)).alloc (.cells #[] 51)) (.cells #[] 59)))
          have H9 := Lib.hid (H9.out.below (one_belowQ ((w5.drew.alloc (.cells #[.slice none 0 0, .slice none 0 0] 27)).alloc (.cells #[] 51)) (.cells #[] 59)))
          have HE2 : Hid (OwnT (((w5.drew.alloc (.cells #[.slice none 0 0, .slice none 0 0] 27)).alloc (.cells #[] 51)).alloc (.cells #[] 59)) w5.heap.size (.slice (some ⟨w5.heap.size + 1 + 1, 0, none⟩) 0 0) 0 []) := Lib.hid (by have h : OwnT (((w5.drew.alloc (.cells #[.slice none 0 0, .slice none 0 0] 27)).alloc (.cells #[] 51)).alloc (.cells #[] 59)) w5.heap.size _ 0 [] := World.ownsRow_made (size := 2) (e := 59) (base := w5.heap.size) ((w5.drew.alloc (.cells #[.slice none 0 0, .slice none 0 0] 27)).alloc (.cells #[] 51)) #[] 0 HB2.out.size (by unfold maxLen; omega) (by simp); simpa using h)
          go_simp
          refine hK9.out _ _ (⟨cell_below HB3.out x5, cell_below HB3.out x6⟩) (fun hHd3 => ?_)
          clear hK9 K9
          try simp only [Act.put, List.getElem_toArray, List.getElem_cons_succ, List.getElem_cons_zero, List.setIfInBounds_toArray, List.set_cons_zero, List.set_cons_succ]
          refine wpAnyH_ready (rs := [3]) (by kernel_rfl) (by simp) ?_
          refine AllReadyH.cons rfl (fun K9 hK9 => ?_) AllReadyH.nil
          refine step_copy ?_ (.tmp 11) (.tmp 13) 24 ?_ w5.heap.size 51 (.agg #[.string ⟨#[]⟩, .bool false, .string ⟨#[]⟩, .string ⟨#[]⟩, .string ⟨#[]⟩]) 5 72 Tryz.underlying24 infoAffS rfl (by decide) (w5.heap.size + 1) 0 0 [] ?_ HE1.out a1 x.affixes.length c1 (x.affixes.flatMap affL) ?_ (HRA.out.below HB3.out) (affs_oneQ _) (by omega) (by decide) HB3.out.size ?_; rfl; rfl; rfl; rfl
          intro gA cA wa3 how hgr hloc
          simp only [Nat.zero_add, List.nil_append] at how
          simp only [Nat.zero_add]
          have hzz : w5.heap.size + 1 + 1 + 1 ≤ wa3.heap.size := by have h := hgr.size; simpa using h
          have hlo : gA = w5.heap.size + 1 ∨ gA = w5.heap.size + 1 + 1 + 1 := hloc.imp id (fun h => by simpa using h)
          have HA : Hid (OwnA wa3 w5.heap.size (.slice (some ⟨gA, 0, none⟩) x.affixes.length cA) x.affixes.length (x.affixes.flatMap affL)) := Lib.hid how
          have hgAlt := HA.out.lt
          have hgr : ((((w5.drew.alloc (.cells #[.slice none 0 0, .slice none 0 0] 27)).alloc (.cells #[] 51)).alloc (.cells #[] 59))).grownBy wa3 (some (w5.heap.size + 1)) := hgr
          have HB4 := Lib.hid (HB3.out.grown hgr HB3.out.size (fun q hq => by have h : w5.heap.size + 1 = q := Option.some.inj hq; omega))
          have HE2 := Lib.hid (HE2.out.grown hgr (by omega))
          have H9 := Lib.hid (H9.out.grownNe hgr (fun q hq => by have h : w5.heap.size + 1 = q := Option.some.inj hq; omega))
          have hgAx : gA ≠ w5.heap.size := by omega
          refine hK9.out _ _ (⟨cell_below HB4.out x5, cell_below HB4.out x6⟩) (fun hHd4 => ?_)
          clear hK9 K9
          try simp only [Act.put, List.getElem_toArray, List.getElem_cons_succ, List.getElem_cons_zero, List.setIfInBounds_toArray, List.set_cons_zero, List.set_cons_succ]
          refine wpAnyH_ready (rs := [7]) (by kernel_rfl) (by simp) ?_
          refine AllReadyH.cons rfl (fun K9 hK9 => ?_) AllReadyH.nil
          refine step_copy ?_ (.tmp 15) (.tmp 17) 25 ?_ w5.heap.size 59 (.agg #[.string ⟨#[]⟩, .slice none 0 0]) 2 40 Tryz.underlying25 infoStmS rfl (by decide) (w5.heap.size + 1 + 1) 0 0 [] ?_ HE2.out a2 x.stems.length c2 ((x.stems.zip us0).flatMap stemL) ?_ (HRS.out.below HB4.out) (stems_oneQ _ _ HON.out) (by omega) (by decide) HB4.out.size ?_; rfl; rfl; rfl; rfl
          intro gB cB wa7 how hgr hloc
          simp only [Nat.zero_add, List.nil_append] at how
          simp only [Nat.zero_add]
          have hzz : wa3.heap.size ≤ wa7.heap.size := by have h := hgr.size; simpa using h
          have hlo : gB = w5.heap.size + 1 + 1 ∨ gB = wa3.heap.size := hloc.imp id (fun h => by simpa using h)
          have HS : Hid (OwnT wa7 w5.heap.size (.slice (some ⟨gB, 0, none⟩) x.stems.length cB) x.stems.length ((x.stems.zip us0).flatMap stemL)) := Lib.hid how
          have hgBlt := HS.out.lt
          have hgr : (wa3).grownBy wa7 (some (w5.heap.size + 1 + 1)) := hgr
          have HB5 := Lib.hid (HB4.out.grown hgr HB4.out.size (fun q hq => by have h : w5.heap.size + 1 + 1 = q := Option.some.inj hq; omega))
          have HA := Lib.hid (HA.out.grown hgr (by omega))
          have hAB : gA ≠ gB := by have := HA.out.lt; omega
          have H9 := Lib.hid (H9.out.grownNe hgr (fun q hq => by have h : w5.heap.size + 1 + 1 = q := Option.some.inj hq; omega))
          have hgBx : gB ≠ w5.heap.size := by omega
          refine hK9.out _ _ (⟨cell_below HB5.out x5, cell_below HB5.out x6⟩) (fun hHd5 => ?_)
          clear hK9 K9
          try simp only [Act.put, List.getElem_toArray, List.getElem_cons_succ, List.getElem_cons_zero, List.setIfInBounds_toArray, List.set_cons_zero, List.set_cons_succ]
          refine wpAnyH_take (i := 8) (v := ?v18) rfl (by kernel_rfl) (by kernel_rfl) (by kernel_rfl) (fun _ _ _ h => h) (Or.inl ⟨by kernel_rfl, ?hy18⟩) (by assumption) ?_
          case hy18 => (intro w9 hS9; (try dsimp only at hS9); go_simp; (try with_reducible rfl))
          try simp only [Act.put, List.getElem_toArray, List.getElem_cons_succ, List.getElem_cons_zero, List.setIfInBounds_toArray, List.set_cons_zero, List.set_cons_succ]
          obtain ⟨t0, f0⟩ := H9.out.c0
          obtain ⟨t1, f1⟩ := H9.out.c1
          have HBz := Lib.hid ((HB5.out.setCell (p := ⟨w5.heap.size, 0, none⟩) (by show w5.heap.size ≤ w5.heap.size; omega) (.slice (some ⟨gA, 0, none⟩) x.affixes.length cA)).setCell (p := ⟨w5.heap.size, 1, none⟩) (by show w5.heap.size ≤ w5.heap.size; omega) (.slice (some ⟨gB, 0, none⟩) x.stems.length cB))
          refine wpAnyH_ready (rs := [10]) (by kernel_rfl) (by simp) ?_
          refine AllReadyH.cons rfl (fun K9 hK9 => ?_) AllReadyH.nil
          rw [if_pos (by rfl)]
          go_simp
          refine hK9.out _ _ (⟨cell_below HBz.out x5, cell_below HBz.out x6⟩) (fun hHe => ?_)
          clear hK9 K9
          try simp only [Act.put, List.getElem_toArray, List.getElem_cons_succ, List.getElem_cons_zero, List.setIfInBounds_toArray, List.set_cons_zero, List.set_cons_succ]
          refine wpAnyH_done (by kernel_rfl) ?_ _
          go_wp2_with fail
          go_meet
          exact ⟨w5.heap.size, rfl, gA, cA, gB, cB, (H9.out.set0 _).set1 _, ((OwnA.set (own_monoR HA.out (by omega)) (by omega)).set (by omega) : OwnA _ (ga + 1) _ _ _), ((OwnT.set (own_monoR HS.out (by omega)) (by omega)).set (by omega) : OwnT _ (ga + 1) _ _ _), hu0, fun j h1 h2 => (HUS.out j h1 h2).2, by omega, hAB, by omega, by omega, HBz.out.mono (by omega)⟩
      · rw [if_pos (by rfl)]
        have HB2 := Lib.hid (HB1.out.trans ((one_belowQ (w5.drew.alloc (.cells #[.slice none 0 0, .slice none 0 0] 27)) (.cells #[] 59)).mono HB1.out.size))
        have H9 := Lib.hid (H9.out.below (one_belowQ (w5.drew.alloc (.cells #[.slice none 0 0, .slice none 0 0] 27)) (.cells #[] 59)))
        have HE2 : Hid (OwnT ((w5.drew.alloc (.cells #[.slice none 0 0, .slice none 0 0] 27)).alloc (.cells #[] 59)) w5.heap.size (.slice (some ⟨w5.heap.size + 1, 0, none⟩) 0 0) 0 []) := Lib.hid (by have h : OwnT ((w5.drew.alloc (.cells #[.slice none 0 0, .slice none 0 0] 27)).alloc (.cells #[] 59)) w5.heap.size _ 0 [] := World.ownsRow_made (size := 2) (e := 59) (base := w5.heap.size) (w5.drew.alloc (.cells #[.slice none 0 0, .slice none 0 0] 27)) #[] 0 HB1.out.size (by unfold maxLen; omega) (by simp); simpa using h)
        go_simp
        refine hK9.out _ _ (⟨cell_below HB2.out x5, cell_below HB2.out x6⟩) (fun hHd2 => ?_)
        clear hK9 K9
        try simp only [Act.put, List.getElem_toArray, List.getElem_cons_succ, List.getElem_cons_zero, List.setIfInBounds_toArray, List.set_cons_zero, List.set_cons_succ]
        refine wpAnyH_ready (rs := [0]) (by kernel_rfl) (by simp) ?_
        refine AllReadyH.cons rfl (fun K9 hK9 => ?_) AllReadyH.nil
        rw [if_pos (by rfl)]
        have HB3 := Lib.hid (HB2.out.trans ((one_belowQ ((w5.drew.alloc (.cells #[.slice none 0 0, .slice none 0 0] 27)).alloc (.cells #[] 59)) (.cells #[] 51)).mono HB2.out.size))
        have HE2 := Lib.hid (HE2.out.below (one_belowQ ((w5.drew.alloc (.cells #[.slice none 0 0, .slice none 0 0] 27)).alloc (.cells #[] 59)) (.cells #[] 51)))
        have H9 := Lib.hid (H9.out.below (one_belowQ ((w5.drew.alloc (.cells #[.slice none 0 0, .slice none 0 0] 27)).alloc (.cells #[] 59)) (.cells #[] 51)))
        have HE1 : Hid (OwnA (((w5.drew.alloc (.cells #[.slice none 0 0, .slice none 0 0] 27)).alloc (.cells #[] 59)).alloc (.cells #[] 51)) w5.heap.size (.slice (some ⟨w5.heap.size + 1 + 1, 0, none⟩) 0 0) 0 []) := Lib.hid (by have h : OwnA (((w5.drew.alloc (.cells #[.slice none 0 0, .slice none 0 0] 27)).alloc (.cells #[] 59)).alloc (.cells #[] 51)) w5.heap.size _ 0 [] := World.ownsRow_made (size := 5) (e := 51) (base := w5.heap.size) ((w5.drew.alloc (.cells #[.slice none 0 0, .slice none 0 0] 27)).alloc (.cells #[] 59)) #[] 0 HB2.out.size (by unfold maxLen; omega) (by simp); simpa using h)
        go_simp
        refine hK9.out _ _ (⟨cell_below HB3.out x5, cell_below HB3.out x6⟩) (fun hHd3 => ?_)
        clear hK9 K9
        try simp only [Act.put, List.getElem_toArray, List.getElem_cons_succ, List.getElem_cons_zero, List.setIfInBounds_toArray, List.set_cons_zero, List.set_cons_succ]
        refine wpAnyH_ready (rs := [3]) (by kernel_rfl) (by simp) ?_
        refine AllReadyH.cons rfl (fun K9 hK9 => ?_) AllReadyH.nil
        refine step_copy ?_ (.tmp 11) (.tmp 13) 24 ?_ w5.heap.size 51 (.agg #[.string ⟨#[]⟩, .bool false, .string ⟨#[]⟩, .string ⟨#[]⟩, .string ⟨#[]⟩]) 5 72 Tryz.underlying24 infoAffS rfl (by decide) (w5.heap.size + 1 + 1) 0 0 [] ?_ HE1.out a1 x.affixes.length c1 (x.affixes.flatMap affL) ?_ (HRA.out.below HB3.out) (affs_oneQ _) (by omega) (by decide) HB3.out.size ?_; rfl; rfl; rfl; rfl
        intro gA cA wa3 how hgr hloc
        simp only [Nat.zero_add, List.nil_append] at how
        simp only [Nat.zero_add]
        have hzz : w5.heap.size + 1 + 1 + 1 ≤ wa3.heap.size := by have h := hgr.size; simpa using h
        have hlo : gA = w5.heap.size + 1 + 1 ∨ gA = w5.heap.size + 1 + 1 + 1 := hloc.imp id (fun h => by simpa using h)
        have HA : Hid (OwnA wa3 w5.heap.size (.slice (some ⟨gA, 0, none⟩) x.affixes.length cA) x.affixes.length (x.affixes.flatMap affL)) := Lib.hid how
        have hgAlt := HA.out.lt
        have hgr : ((((w5.drew.alloc (.cells #[.slice none 0 0, .slice none 0 0] 27)).alloc (.cells #[] 59)).alloc (.cells #[] 51))).grownBy wa3 (some (w5.heap.size + 1 + 1)) := hgr
        have HB4 := Lib.hid (HB3.out.grown hgr HB3.out.size (fun q hq => by have h : w5.heap.size + 1 + 1 = q := Option.some.inj hq; omega))
        have HE2 := Lib.hid (HE2.out.grown hgr (by omega))
        have H9 := Lib.hid (H9.out.grownNe hgr (fun q hq => by have h : w5.heap.size + 1 + 1 = q := Option.some.inj hq; omega))
        have hgAx : gA ≠ w5.heap.size := by omega
        refine hK9.out _ _ (⟨cell_below HB4.out x5, cell_below HB4.out x6⟩) (fun hHd4 => ?_)
        clear hK9 K9
        try simp only [Act.put, List.getElem_toArray, List.getElem_cons_succ, List.getElem_cons_zero, List.setIfInBounds_toArray, List.set_cons_zero, List.set_cons_succ]
        refine wpAnyH_ready (rs := [7]) (by kernel_rfl) (by simp) ?_
        refine AllReadyH.cons rfl (fun K9 hK9 => ?_) AllReadyH.nil
        refine step_copy ?_ (.tmp 15) (.tmp 17) 25 ?_ w5.heap.size 59 (.agg #[.string ⟨#[]⟩, .slice none 0 0]) 2 40 Tryz.underlying25 infoStmS rfl (by decide) (w5.heap.size + 1) 0 0 [] ?_ HE2.out a2 x.stems.length c2 ((x.stems.zip us0).flatMap stemL) ?_ (HRS.out.below HB4.out) (stems_oneQ _ _ HON.out) (by omega) (by decide) HB4.out.size ?_; rfl; rfl; rfl; rfl
        intro gB cB wa7 how hgr hloc
        simp only [Nat.zero_add, List.nil_append] at how
        simp only [Nat.zero_add]
        have hzz : wa3.heap.size ≤ wa7.heap.size := by have h := hgr.size; simpa using h
        have hlo : gB = w5.heap.size + 1 ∨ gB = wa3.heap.size := hloc.imp id (fun h => by simpa using h)
        have HS : Hid (OwnT wa7 w5.heap.size (.slice (some ⟨gB, 0, none⟩) x.stems.length cB) x.stems.length ((x.stems.zip us0).flatMap stemL)) := Lib.hid how
        have hgBlt := HS.out.lt
        have hgr : (wa3).grownBy wa7 (some (w5.heap.size + 1)) := hgr
        have HB5 := Lib.hid (HB4.out.grown hgr HB4.out.size (fun q hq => by have h : w5.heap.size + 1 = q := Option.some.inj hq; omega))
        have HA := Lib.hid (HA.out.grown hgr (by omega))
        have hAB : gA ≠ gB := by have := HA.out.lt; omega
        have H9 := Lib.hid (H9.out.grownNe hgr (fun q hq => by have h : w5.heap.size + 1 = q := Option.some.inj hq; omega))
        have hgBx : gB ≠ w5.heap.size := by omega
        refine hK9.out _ _ (⟨cell_below HB5.out x5, cell_below HB5.out x6⟩) (fun hHd5 => ?_)
        clear hK9 K9
        try simp only [Act.put, List.getElem_toArray, List.getElem_cons_succ, List.getElem_cons_zero, List.setIfInBounds_toArray, List.set_cons_zero, List.set_cons_succ]
        refine wpAnyH_take (i := 8) (v := ?v19) rfl (by kernel_rfl) (by kernel_rfl) (by kernel_rfl) (fun _ _ _ h => h) (Or.inl ⟨by kernel_rfl, ?hy19⟩) (by assumption) ?_
        case hy19 => (intro w9 hS9; (try dsimp only at hS9); go_simp; (try with_reducible rfl))
        try simp only [Act.put, List.getElem_toArray, List.getElem_cons_succ, List.getElem_cons_zero, List.setIfInBounds_toArray, List.set_cons_zero, List.set_cons_succ]
        obtain ⟨t0, f0⟩ := H9.out.c0
        obtain ⟨t1, f1⟩ := H9.out.c1
        have HBz := Lib.hid ((HB5.out.setCell (p := ⟨w5.heap.size, 0, none⟩) (by show w5.heap.size ≤ w5.heap.size; omega) (.slice (some ⟨gA, 0, none⟩) x.affixes.length cA)).setCell (p := ⟨w5.heap.size, 1, none⟩) (by show w5.heap.size ≤ w5.heap.size; omega) (.slice (some ⟨gB, 0, none⟩) x.stems.length cB))
        refine wpAnyH_ready (rs := [10]) (by kernel_rfl) (by simp) ?_
        refine AllReadyH.cons rfl (fun K9 hK9 => ?_) AllReadyH.nil
        rw [if_pos (by rfl)]
        go_simp
        refine hK9.out _ _ (⟨cell_below HBz.out x5, cell_below HBz.out x6⟩) (fun hHe => ?_)
        clear hK9 K9
        try simp only [Act.put, List.getElem_toArray, List.getElem_cons_succ, List.getElem_cons_zero, List.setIfInBounds_toArray, List.set_cons_zero, List.set_cons_succ]
        refine wpAnyH_done (by kernel_rfl) ?_ _
        go_wp2_with fail
        go_meet
        exact ⟨w5.heap.size, rfl, gA, cA, gB, cB, (H9.out.set0 _).set1 _, ((OwnA.set (own_monoR HA.out (by omega)) (by omega)).set (by omega) : OwnA _ (ga + 1) _ _ _), ((OwnT.set (own_monoR HS.out (by omega)) (by omega)).set (by omega) : OwnT _ (ga + 1) _ _ _), hu0, fun j h1 h2 => (HUS.out j h1 h2).2, by omega, hAB, by omega, by omega, HBz.out.mono (by omega)⟩
  case rest =>
    obtain ⟨bx, rfl, gA, cA, gB, cB, hc⟩ := hcut
    obtain ⟨w6, hw6⟩ : ∃ z, z = wc := ⟨_, rfl⟩
    subst hw6
    have hlow := hc.low
    have hz6 := hlow.size
    have hlowA : Below w5.heap.size w5 w6 := by rw [HzA.out]; exact hlow
    have HC6 := Lib.hid hc
    have HS6 := Lib.hid (HS5.out.below hlowA)
    have hbx := hc.box.lt
    go_wp2_with fail
    refine (pick_any g bs k2 4 _ _ HS6.out (by omega) rfl (by omega)).mono ?_
    rintro e w7 ⟨r7, k7, rfl, hr7, hk7, hs7, hkk7⟩
    have hz7 := hkk7.size
    have hk57 : Kept g (g + 1) w5 w7 := (Kept.of_below hlowA).trans hkk7
    have HC7 : Hid (CopyG w7 w7 g ga bx gA cA gB cB x us0) := Lib.hid (HC6.out.kept hkk7 hzB (by omega) w7 hk57 (Below.refl _ _))
    have HE7 : Hid (EndS w w7 g ga bx (.slice a1 x.affixes.length c1) (.slice a2 x.stems.length c2) (.slice (some ⟨gA, 0, none⟩) x.affixes.length cA) (.slice (some ⟨gB, 0, none⟩) x.stems.length cB)) := Lib.hid ⟨HX5.out.kept hk57 (.inr (by omega)), HC7.out.box, (hk57.block _ (by have := HB5.out.size; have := HX5.out.lt; omega) (.inl (by omega))).trans HR5.out, (hk57.block _ (by have := HX5.out.lt; omega) (.inl (by omega))).trans HQ5.out, ⟨x, x, HG5.out.kept hk57 (.inr (Nat.le_refl _)), HC7.out.read (by omega) (by omega) HNx.out⟩, HB5.out.trans (hk57.below (by omega) HB5.out.size), hg2, by omega, by have := HC7.out.xb; omega⟩
    have hbx7 := HC7.out.box.lt
    clear hc hlow hlowA hs7 hkk7 hk57 HC6 HS6 HX5 HR5 HQ5 HB5 HG5 HS5 x5 y5 x6 y6 HRA HRS HUS HON hbx
    obtain ⟨b0, c0⟩ := HE7.out.box2.c0
    obtain ⟨b1, c1b⟩ := HE7.out.box2.c1
    go_upto_block 0 with fail
    go_cut [4, 21] (fun s4 s21 wz => s4 = .pointer (some ⟨g, 0, none⟩) ∧ (∃ z : Int, s21 = .int .i64 z) ∧ EndS w wz g ga bx (.slice a1 x.affixes.length c1) (.slice a2 x.stems.length c2) (.slice (some ⟨gA, 0, none⟩) x.affixes.length cA) (.slice (some ⟨gB, 0, none⟩) x.stems.length cB))
    case first =>
      have hu12 : ∀ s ∈ x.stems, s.uses.length ≤ 50 := fun s hs => HU12.out s hs
      by_cases r0 : r7 = 0
      · have hrI : (r7 : Int) = 0 := by omega
        rw [hrI]
        clear hrI hr7
        obtain ⟨A, S⟩ := x
        cases A with
        | nil =>
          have b0 : w7.cell? ⟨bx, 0, none⟩ = some (.slice (some ⟨gA, 0, none⟩) 0 cA) := b0
          go_wp2_with fail
          go_meet
          exact ⟨rfl, ⟨_, rfl⟩, HE7.out⟩
        | cons f F =>
          have b0 : w7.cell? ⟨bx, 0, none⟩ = some (.slice (some ⟨gA, 0, none⟩) (F.length + 1) cA) := b0
          obtain ⟨⟨cf, ff⟩, hE9⟩ := EndS.front HE7.out HC7.out HNx.out (!f.front)
          have cfd : w7.drew.cell? ⟨gA, 1, none⟩ = some (.bool f.front) := cf
          have hFI : (0 : Int) < (F.length : Int) + 1 := by omega
          have hxa7 := HC7.out.xa
          have HE9 := Lib.hid hE9
          clear hE9
          go_upto_region 7 with fail
          refine wp_region_held_drew (S := (fun w' => w'.cell? ⟨bx, 0, none⟩ = some (.slice (some ⟨gA, 0, none⟩) (F.length + 1) cA))) (by kernel_rfl) ?_ (fun hHeld => ?_)
          · exact b0
          refine wpAnyH_take (i := 0) (v := ?v20) rfl (by kernel_rfl) (by kernel_rfl) (by kernel_rfl) (fun _ _ _ h => h) (Or.inl ⟨by kernel_rfl, ?hy20⟩) (by assumption) ?_
          case hy20 => (intro w9 hS9; (try dsimp only at hS9); go_simp; (try with_reducible rfl))
          try simp only [Act.put, List.getElem_toArray, List.getElem_cons_succ, List.getElem_cons_zero, List.setIfInBounds_toArray, List.set_cons_zero, List.set_cons_succ]
          refine wpAnyH_take (i := 1) (v := ?v21) rfl (by kernel_rfl) (by kernel_rfl) (by kernel_rfl) (fun _ _ _ h => h) (Or.inl ⟨by kernel_rfl, ?hy21⟩) (by assumption) ?_
          case hy21 => (intro w9 hS9; (try dsimp only at hS9); go_simp; (try with_reducible rfl))
          try simp only [Act.put, List.getElem_toArray, List.getElem_cons_succ, List.getElem_cons_zero, List.setIfInBounds_toArray, List.set_cons_zero, List.set_cons_succ]
          refine wpAnyH_take (i := 2) (v := ?v22) rfl (by kernel_rfl) (by kernel_rfl) (by kernel_rfl) (fun _ _ _ h => h) (Or.inl ⟨by kernel_rfl, ?hy22⟩) (by assumption) ?_
          case hy22 => (intro w9 hS9; (try dsimp only at hS9); go_simp; (try with_reducible rfl))
          try simp only [Act.put, List.getElem_toArray, List.getElem_cons_succ, List.getElem_cons_zero, List.setIfInBounds_toArray, List.set_cons_zero, List.set_cons_succ]
          refine wpAnyH_take (i := 3) (v := ?v23) rfl (by kernel_rfl) (by kernel_rfl) (by kernel_rfl) (fun _ _ _ h => h) (Or.inl ⟨by kernel_rfl, ?hy23⟩) (by assumption) ?_
          case hy23 => (intro w9 hS9; (try dsimp only at hS9); go_simp; (try with_reducible rfl))
          try simp only [Act.put, List.getElem_toArray, List.getElem_cons_succ, List.getElem_cons_zero, List.setIfInBounds_toArray, List.set_cons_zero, List.set_cons_succ]
          refine wpAnyH_take (i := 4) (v := ?v24) rfl (by kernel_rfl) (by kernel_rfl) (by kernel_rfl) (fun _ _ _ h => h) (Or.inl ⟨by kernel_rfl, ?hy24⟩) (by assumption) ?_
          case hy24 => (intro w9 hS9; (try dsimp only at hS9); go_simp; (try with_reducible rfl))
          try simp only [Act.put, List.getElem_toArray, List.getElem_cons_succ, List.getElem_cons_zero, List.setIfInBounds_toArray, List.set_cons_zero, List.set_cons_succ]
          refine wpAnyH_take (i := 5) (v := ?v25) rfl (by kernel_rfl) (by kernel_rfl) (by kernel_rfl) (fun _ _ _ h => h) (Or.inl ⟨by kernel_rfl, ?hy25⟩) (by assumption) ?_
          case hy25 => (intro w9 hS9; (try dsimp only at hS9); go_simp; (try with_reducible rfl))
          try simp only [Act.put, List.getElem_toArray, List.getElem_cons_succ, List.getElem_cons_zero, List.setIfInBounds_toArray, List.set_cons_zero, List.set_cons_succ]
          refine wpAnyH_ready (rs := [6]) (by kernel_rfl) (by simp) ?_
          refine AllReadyH.cons rfl (fun K9 hK9 => ?_) AllReadyH.nil
          rw [if_pos (by rfl)]
          go_simp
          refine hK9.out _ _ ((by assumption)) (fun hHeld2 => ?_)
          clear hK9 K9
          try simp only [Act.put, List.getElem_toArray, List.getElem_cons_succ, List.getElem_cons_zero, List.setIfInBounds_toArray, List.set_cons_zero, List.set_cons_succ]
          refine wpAnyH_take (i := 7) (v := ?v26) rfl (by kernel_rfl) (by kernel_rfl) (by kernel_rfl) (fun _ _ _ h => h) (Or.inl ⟨by kernel_rfl, ?hy26⟩) (by assumption) ?_
          case hy26 => (intro w9 hS9; (try dsimp only at hS9); go_simp; (try with_reducible rfl))
          try simp only [Act.put, List.getElem_toArray, List.getElem_cons_succ, List.getElem_cons_zero, List.setIfInBounds_toArray, List.set_cons_zero, List.set_cons_succ]
          refine wpAnyH_take (i := 8) (v := ?v27) rfl (by kernel_rfl) (by kernel_rfl) (by kernel_rfl) (fun _ _ _ h => h) (Or.inl ⟨by kernel_rfl, ?hy27⟩) (by assumption) ?_
          case hy27 => (intro w9 hS9; (try dsimp only at hS9); go_simp; (try with_reducible rfl))
          try simp only [Act.put, List.getElem_toArray, List.getElem_cons_succ, List.getElem_cons_zero, List.setIfInBounds_toArray, List.set_cons_zero, List.set_cons_succ]
          refine wpAnyH_take (i := 9) (v := ?v28) rfl (by kernel_rfl) (by kernel_rfl) (by kernel_rfl) (fun _ _ _ h => h) (Or.inl ⟨by kernel_rfl, ?hy28⟩) (by assumption) ?_
          case hy28 => (intro w9 hS9; (try dsimp only at hS9); go_simp; (try with_reducible rfl))
          try simp only [Act.put, List.getElem_toArray, List.getElem_cons_succ, List.getElem_cons_zero, List.setIfInBounds_toArray, List.set_cons_zero, List.set_cons_succ]
          refine wpAnyH_ready (rs := [10]) (by kernel_rfl) (by simp) ?_
          refine AllReadyH.cons rfl (fun K9 hK9 => ?_) AllReadyH.nil
          rw [if_pos (by rfl)]
          go_simp
          refine hK9.out _ _ (cell_setQ (by omega) b0) (fun hHeld3 => ?_)
          clear hK9 K9
          try simp only [Act.put, List.getElem_toArray, List.getElem_cons_succ, List.getElem_cons_zero, List.setIfInBounds_toArray, List.set_cons_zero, List.set_cons_succ]
          refine wpAnyH_done (by kernel_rfl) ?_ _
          go_wp2_with fail
          go_meet
          exact ⟨rfl, ⟨_, rfl⟩, HE9.out.drew⟩
      · by_cases r1 : r7 = 1
        · have hrI : (r7 : Int) = 1 := by omega
          rw [hrI]
          clear hrI hr7
          obtain ⟨A, S⟩ := x
          cases S with
          | nil =>
            have b1 : w7.cell? ⟨bx, 1, none⟩ = some (.slice (some ⟨gB, 0, none⟩) 0 cB) := b1
            go_wp2_with fail
            go_meet
            exact ⟨rfl, ⟨_, rfl⟩, HE7.out⟩
          | cons s S =>
            have b1 : w7.cell? ⟨bx, 1, none⟩ = some (.slice (some ⟨gB, 0, none⟩) (S.length + 1) cB) := b1
            obtain ⟨u0, us1, rfl⟩ : ∃ u0 us1, us0 = u0 :: us1 := by cases us0 with | nil => exact absurd HC7.out.len (by simp) | cons u0 us1 => exact ⟨_, _, rfl⟩
            have hus := HC7.out.uses 0 (by simp) (by simp)
            obtain ⟨a0, c9, e0, -, -, -⟩ := hus.read.shape
            have e0 : u0 = (.slice a0 s.uses.length c9) := e0
            subst e0
            have HU7 : Hid (SlR w7 1 (.slice a0 s.uses.length c9) s.uses.length (s.uses.map Value.string)) := Lib.hid hus.read.1
            have hsu : ∀ y ∈ s.uses, y.size ≤ maxLen := hus.2
            clear hus
            have hs12 : s.uses.length ≤ 50 := hu12 s (List.mem_cons_self ..)
            have hcs : w7.cell? ⟨gB, 1, none⟩ = some (.slice a0 s.uses.length c9) := (EndS.use (gu := w7.heap.size) (cu := 0) (L := []) (W := w7.alloc (.cells #[] 9)) HE7.out HC7.out HNx.out (one_belowQ _ _) (OwnS.made w7 w7.heap.size (Nat.le_refl _)) (by simp) (by simp)).1.1 |> fun h => by rwa [World.cell?_alloc_lt _ _ _ (by have := HC7.out.stm.lt; exact this.2)] at h
            have hcsd : w7.drew.cell? ⟨gB, 1, none⟩ = some (.slice a0 s.uses.length c9) := hcs
            have hSI : (0 : Int) < (S.length : Int) + 1 := by omega
            have hxs7 := HC7.out.xs
            go_upto_region 10 with fail
            refine wp_region_held_drew (S := (fun w' => w'.cell? ⟨bx, 1, none⟩ = some (.slice (some ⟨gB, 0, none⟩) (S.length + 1) cB))) (by kernel_rfl) ?_ (fun hHeld => ?_)
            · exact b1
            refine wpAnyH_take (i := 0) (v := ?v29) rfl (by kernel_rfl) (by kernel_rfl) (by kernel_rfl) (fun _ _ _ h => h) (Or.inl ⟨by kernel_rfl, ?hy29⟩) (by assumption) ?_
            case hy29 => (intro w9 hS9; (try dsimp only at hS9); go_simp; (try with_reducible rfl))
            try simp only [Act.put, List.getElem_toArray, List.getElem_cons_succ, List.getElem_cons_zero, List.setIfInBounds_toArray, List.set_cons_zero, List.set_cons_succ]
            refine wpAnyH_take (i := 1) (v := ?v30) rfl (by kernel_rfl) (by kernel_rfl) (by kernel_rfl) (fun _ _ _ h => h) (Or.inl ⟨by kernel_rfl, ?hy30⟩) (by assumption) ?_
            case hy30 => (intro w9 hS9; (try dsimp only at hS9); go_simp; (try with_reducible rfl))
            try simp only [Act.put, List.getElem_toArray, List.getElem_cons_succ, List.getElem_cons_zero, List.setIfInBounds_toArray, List.set_cons_zero, List.set_cons_succ]
            refine wpAnyH_take (i := 3) (v := ?v31) rfl (by kernel_rfl) (by kernel_rfl) (by kernel_rfl) (fun _ _ _ h => h) (Or.inl ⟨by kernel_rfl, ?hy31⟩) (by assumption) ?_
            case hy31 => (intro w9 hS9; (try dsimp only at hS9); go_simp; (try with_reducible rfl))
            try simp only [Act.put, List.getElem_toArray, List.getElem_cons_succ, List.getElem_cons_zero, List.setIfInBounds_toArray, List.set_cons_zero, List.set_cons_succ]
            refine wpAnyH_take (i := 4) (v := ?v32) rfl (by kernel_rfl) (by kernel_rfl) (by kernel_rfl) (fun _ _ _ h => h) (Or.inl ⟨by kernel_rfl, ?hy32⟩) (by assumption) ?_
            case hy32 => (intro w9 hS9; (try dsimp only at hS9); go_simp; (try with_reducible rfl))
            try simp only [Act.put, List.getElem_toArray, List.getElem_cons_succ, List.getElem_cons_zero, List.setIfInBounds_toArray, List.set_cons_zero, List.set_cons_succ]
            refine wpAnyH_take (i := 5) (v := ?v33) rfl (by kernel_rfl) (by kernel_rfl) (by kernel_rfl) (fun _ _ _ h => h) (Or.inl ⟨by kernel_rfl, ?hy33⟩) (by assumption) ?_
            case hy33 => (intro w9 hS9; (try dsimp only at hS9); go_simp; (try with_reducible rfl))
            try simp only [Act.put, List.getElem_toArray, List.getElem_cons_succ, List.getElem_cons_zero, List.setIfInBounds_toArray, List.set_cons_zero, List.set_cons_succ]
            refine wpAnyH_take (i := 6) (v := ?v34) rfl (by kernel_rfl) (by kernel_rfl) (by kernel_rfl) (fun _ _ _ h => h) (Or.inl ⟨by kernel_rfl, ?hy34⟩) (by assumption) ?_
            case hy34 => (intro w9 hS9; (try dsimp only at hS9); go_simp; (try with_reducible rfl))
            try simp only [Act.put, List.getElem_toArray, List.getElem_cons_succ, List.getElem_cons_zero, List.setIfInBounds_toArray, List.set_cons_zero, List.set_cons_succ]
            refine wpAnyH_ready (rs := [2, 7]) (by kernel_rfl) (by simp) ?_
            refine AllReadyH.cons rfl (fun K9 hK9 => ?_) (AllReadyH.cons rfl (fun K9 hK9 => ?_) (AllReadyH.nil))
            · rw [if_pos (by rfl)]
              have hcsa : (w7.alloc (.cells #[.string ⟨#[97, 97]⟩] 9)).cell? ⟨gB, 1, none⟩ = some (.slice a0 s.uses.length c9) := cell_allocQ _ hcs
              go_simp
              refine hK9.out _ _ (cell_allocQ _ b1) (fun hHeld2 => ?_)
              clear hK9 K9
              try simp only [Act.put, List.getElem_toArray, List.getElem_cons_succ, List.getElem_cons_zero, List.setIfInBounds_toArray, List.set_cons_zero, List.set_cons_succ]
              have HOW : Hid (World.ownsRow (w7.drew.alloc (.cells #[.string ⟨#[97, 97]⟩] 9)) w7.heap.size 9 1 (.slice (some ⟨w7.heap.size, 0, none⟩) 1 1) 1 [.string ⟨#[97, 97]⟩]) := Lib.hid (World.ownsRow_lit (size := 1) (e := 9) (base := w7.heap.size) w7.drew #[.string ⟨#[97, 97]⟩] 1 (Nat.le_refl _) (by unfold maxLen; omega) rfl)
              have HOB : Hid (Below w7.heap.size w7 (w7.drew.alloc (.cells #[.string ⟨#[97, 97]⟩] 9))) := Lib.hid ((Below.refl w7.heap.size w7).drew.trans (one_belowQ w7.drew (.cells #[.string ⟨#[97, 97]⟩] 9)))
              have HU7 := Lib.hid (SlR.below HU7.out HOB.out)
              refine wpAnyH_ready (rs := [7]) (by kernel_rfl) (by simp) ?_
              refine AllReadyH.cons rfl (fun K9 hK9 => ?_) AllReadyH.nil
              rw [if_pos (by rfl)]
              go_simp
              refine hK9.out _ _ ((by assumption)) (fun hHeld3 => ?_)
              clear hK9 K9
              try simp only [Act.put, List.getElem_toArray, List.getElem_cons_succ, List.getElem_cons_zero, List.setIfInBounds_toArray, List.set_cons_zero, List.set_cons_succ]
              refine wpAnyH_ready (rs := [8]) (by kernel_rfl) (by simp) ?_
              refine AllReadyH.cons rfl (fun K9 hK9 => ?_) AllReadyH.nil
              refine step_copy ?_ (.tmp 46) (.tmp 51) 35 ?_ w7.heap.size 9 (.string ⟨#[]⟩) 1 16 Tryz.underlying35 infoStr rfl (by decide) w7.heap.size 1 1 [.string ⟨#[97, 97]⟩] ?_ HOW.out a0 s.uses.length c9 (s.uses.map Value.string) ?_ HU7.out (fun u hu => by obtain ⟨y, -, rfl⟩ := List.mem_map.1 hu; rfl) (by omega) (by decide) HOB.out.size ?_; rfl; rfl; rfl; rfl
              intro gu cu w9 how hgr hloc
              have HOW9 : OwnS w9 w7.heap.size (.slice (some ⟨gu, 0, none⟩) (1 + s.uses.length) cu) (⟨#[97, 97]⟩ :: s.uses) := by unfold OwnS; rw [show (⟨#[97, 97]⟩ :: s.uses : List ByteArray).length = 1 + s.uses.length by simp; omega]; exact how
              have hb9 : Below w7.heap.size w7 w9 := HOB.out.grown hgr HOB.out.size (fun q hq => by have h : w7.heap.size = q := Option.some.inj hq; omega)
              have hlu : (⟨#[97, 97]⟩ :: s.uses : List ByteArray).length = 1 + s.uses.length := by rw [List.length_cons]; omega
              obtain ⟨⟨cu9, fu9⟩, hE9⟩ := EndS.use (gu := gu) (cu := cu) (L := ⟨#[97, 97]⟩ :: s.uses) HE7.out HC7.out HNx.out hb9 (by rw [hlu]; exact HOW9) (by rw [hlu]; omega) (fun y hy => by rcases List.mem_cons.1 hy with rfl | hy; exact max12 (show (2 : Nat) ≤ 60 by decide); exact hsu y hy)
              rw [hlu] at hE9
              refine hK9.out _ _ (cell_below hb9 b1) (fun hHeld4 => ?_)
              clear hK9 K9
              try simp only [Act.put, List.getElem_toArray, List.getElem_cons_succ, List.getElem_cons_zero, List.setIfInBounds_toArray, List.set_cons_zero, List.set_cons_succ]
              refine wpAnyH_take (i := 9) (v := ?v35) rfl (by kernel_rfl) (by kernel_rfl) (by kernel_rfl) (fun _ _ _ h => h) (Or.inl ⟨by kernel_rfl, ?hy35⟩) (by assumption) ?_
              case hy35 => (intro w9 hS9; (try dsimp only at hS9); go_simp; (try with_reducible rfl))
              try simp only [Act.put, List.getElem_toArray, List.getElem_cons_succ, List.getElem_cons_zero, List.setIfInBounds_toArray, List.set_cons_zero, List.set_cons_succ]
              refine wpAnyH_take (i := 10) (v := ?v36) rfl (by kernel_rfl) (by kernel_rfl) (by kernel_rfl) (fun _ _ _ h => h) (Or.inl ⟨by kernel_rfl, ?hy36⟩) (by assumption) ?_
              case hy36 => (intro w9 hS9; (try dsimp only at hS9); go_simp; (try with_reducible rfl))
              try simp only [Act.put, List.getElem_toArray, List.getElem_cons_succ, List.getElem_cons_zero, List.setIfInBounds_toArray, List.set_cons_zero, List.set_cons_succ]
              refine wpAnyH_ready (rs := [11]) (by kernel_rfl) (by simp) ?_
              refine AllReadyH.cons rfl (fun K9 hK9 => ?_) AllReadyH.nil
              rw [if_pos (by rfl)]
              go_simp
              refine hK9.out _ _ (cell_setQ (by omega) (cell_below hb9 b1)) (fun hHeld5 => ?_)
              clear hK9 K9
              try simp only [Act.put, List.getElem_toArray, List.getElem_cons_succ, List.getElem_cons_zero, List.setIfInBounds_toArray, List.set_cons_zero, List.set_cons_succ]
              refine wpAnyH_done (by kernel_rfl) ?_ _
              have HE9 := Lib.hid hE9
              clear hE9
              go_wp2_with fail
              go_meet
              exact ⟨rfl, ⟨_, rfl⟩, HE9.out⟩
            · rw [if_pos (by rfl)]
              go_simp
              refine hK9.out _ _ ((by assumption)) (fun hHeld2 => ?_)
              clear hK9 K9
              try simp only [Act.put, List.getElem_toArray, List.getElem_cons_succ, List.getElem_cons_zero, List.setIfInBounds_toArray, List.set_cons_zero, List.set_cons_succ]
              refine wpAnyH_ready (rs := [2]) (by kernel_rfl) (by simp) ?_
              refine AllReadyH.cons rfl (fun K9 hK9 => ?_) AllReadyH.nil
              rw [if_pos (by rfl)]
              go_simp
              refine hK9.out _ _ (cell_allocQ _ b1) (fun hHeld3 => ?_)
              clear hK9 K9
              try simp only [Act.put, List.getElem_toArray, List.getElem_cons_succ, List.getElem_cons_zero, List.setIfInBounds_toArray, List.set_cons_zero, List.set_cons_succ]
              have HOW : Hid (World.ownsRow (w7.drew.alloc (.cells #[.string ⟨#[97, 97]⟩] 9)) w7.heap.size 9 1 (.slice (some ⟨w7.heap.size, 0, none⟩) 1 1) 1 [.string ⟨#[97, 97]⟩]) := Lib.hid (World.ownsRow_lit (size := 1) (e := 9) (base := w7.heap.size) w7.drew #[.string ⟨#[97, 97]⟩] 1 (Nat.le_refl _) (by unfold maxLen; omega) rfl)
              have HOB : Hid (Below w7.heap.size w7 (w7.drew.alloc (.cells #[.string ⟨#[97, 97]⟩] 9))) := Lib.hid ((Below.refl w7.heap.size w7).drew.trans (one_belowQ w7.drew (.cells #[.string ⟨#[97, 97]⟩] 9)))
              have HU7 := Lib.hid (SlR.below HU7.out HOB.out)
              refine wpAnyH_ready (rs := [8]) (by kernel_rfl) (by simp) ?_
              refine AllReadyH.cons rfl (fun K9 hK9 => ?_) AllReadyH.nil
              refine step_copy ?_ (.tmp 46) (.tmp 51) 35 ?_ w7.heap.size 9 (.string ⟨#[]⟩) 1 16 Tryz.underlying35 infoStr rfl (by decide) w7.heap.size 1 1 [.string ⟨#[97, 97]⟩] ?_ HOW.out a0 s.uses.length c9 (s.uses.map Value.string) ?_ HU7.out (fun u hu => by obtain ⟨y, -, rfl⟩ := List.mem_map.1 hu; rfl) (by omega) (by decide) HOB.out.size ?_; rfl; rfl; rfl; rfl
              intro gu cu w9 how hgr hloc
              have HOW9 : OwnS w9 w7.heap.size (.slice (some ⟨gu, 0, none⟩) (1 + s.uses.length) cu) (⟨#[97, 97]⟩ :: s.uses) := by unfold OwnS; rw [show (⟨#[97, 97]⟩ :: s.uses : List ByteArray).length = 1 + s.uses.length by simp; omega]; exact how
              have hb9 : Below w7.heap.size w7 w9 := HOB.out.grown hgr HOB.out.size (fun q hq => by have h : w7.heap.size = q := Option.some.inj hq; omega)
              have hlu : (⟨#[97, 97]⟩ :: s.uses : List ByteArray).length = 1 + s.uses.length := by rw [List.length_cons]; omega
              obtain ⟨⟨cu9, fu9⟩, hE9⟩ := EndS.use (gu := gu) (cu := cu) (L := ⟨#[97, 97]⟩ :: s.uses) HE7.out HC7.out HNx.out hb9 (by rw [hlu]; exact HOW9) (by rw [hlu]; omega) (fun y hy => by rcases List.mem_cons.1 hy with rfl | hy; exact max12 (show (2 : Nat) ≤ 60 by decide); exact hsu y hy)
              rw [hlu] at hE9
              refine hK9.out _ _ (cell_below hb9 b1) (fun hHeld4 => ?_)
              clear hK9 K9
              try simp only [Act.put, List.getElem_toArray, List.getElem_cons_succ, List.getElem_cons_zero, List.setIfInBounds_toArray, List.set_cons_zero, List.set_cons_succ]
              refine wpAnyH_take (i := 9) (v := ?v37) rfl (by kernel_rfl) (by kernel_rfl) (by kernel_rfl) (fun _ _ _ h => h) (Or.inl ⟨by kernel_rfl, ?hy37⟩) (by assumption) ?_
              case hy37 => (intro w9 hS9; (try dsimp only at hS9); go_simp; (try with_reducible rfl))
              try simp only [Act.put, List.getElem_toArray, List.getElem_cons_succ, List.getElem_cons_zero, List.setIfInBounds_toArray, List.set_cons_zero, List.set_cons_succ]
              refine wpAnyH_take (i := 10) (v := ?v38) rfl (by kernel_rfl) (by kernel_rfl) (by kernel_rfl) (fun _ _ _ h => h) (Or.inl ⟨by kernel_rfl, ?hy38⟩) (by assumption) ?_
              case hy38 => (intro w9 hS9; (try dsimp only at hS9); go_simp; (try with_reducible rfl))
              try simp only [Act.put, List.getElem_toArray, List.getElem_cons_succ, List.getElem_cons_zero, List.setIfInBounds_toArray, List.set_cons_zero, List.set_cons_succ]
              refine wpAnyH_ready (rs := [11]) (by kernel_rfl) (by simp) ?_
              refine AllReadyH.cons rfl (fun K9 hK9 => ?_) AllReadyH.nil
              rw [if_pos (by rfl)]
              go_simp
              refine hK9.out _ _ (cell_setQ (by omega) (cell_below hb9 b1)) (fun hHeld5 => ?_)
              clear hK9 K9
              try simp only [Act.put, List.getElem_toArray, List.getElem_cons_succ, List.getElem_cons_zero, List.setIfInBounds_toArray, List.set_cons_zero, List.set_cons_succ]
              refine wpAnyH_done (by kernel_rfl) ?_ _
              have HE9 := Lib.hid hE9
              clear hE9
              go_wp2_with fail
              go_meet
              exact ⟨rfl, ⟨_, rfl⟩, HE9.out⟩
        · have hn0 : ¬ ((r7 : Int) = 0) := by omega
          have hn1 : ¬ ((r7 : Int) = 1) := by omega
          go_wp2_with fail
          go_meet
          exact ⟨rfl, ⟨_, rfl⟩, HE7.out⟩
    case rest =>
      obtain ⟨rfl, ⟨z9, rfl⟩, he8⟩ := hcut
      have HE8 := Lib.hid he8
      clear he8 HE7 HC7 b0 c0 b1 c1b
      obtain ⟨w8, hw8⟩ : ∃ z, z = wc := ⟨_, rfl⟩
      subst hw8
      obtain ⟨x0, y0⟩ := HE8.out.box.c0
      obtain ⟨x1, y1⟩ := HE8.out.box.c1
      obtain ⟨d0, q0⟩ := HE8.out.box2.c0
      obtain ⟨d1, q1⟩ := HE8.out.box2.c1
      have hox := HE8.out.ox
      obtain ⟨r0, p0⟩ := src_cell (i := 0) (v := .slice none 0 0) HE8.out.r1 rfl
      obtain ⟨r1, p1⟩ := src_cell (i := 1) (v := .slice none 0 0) HE8.out.r1 rfl
      obtain ⟨r2, p2⟩ := src_cell (i := 0) (v := .slice none 0 0) HE8.out.r2 rfl
      obtain ⟨r3, p3⟩ := src_cell (i := 1) (v := .slice none 0 0) HE8.out.r2 rfl
      go_upto_region 11 with fail
      refine wp_region_held_drew (S := (fun w' => w'.cell? ⟨ga, 0, none⟩ = some (.slice a1 x.affixes.length c1) ∧ w'.cell? ⟨ga, 1, none⟩ = some (.slice a2 x.stems.length c2) ∧ w'.cell? ⟨bx, 0, none⟩ = some (.slice (some ⟨gA, 0, none⟩) x.affixes.length cA) ∧ w'.cell? ⟨bx, 1, none⟩ = some (.slice (some ⟨gB, 0, none⟩) x.stems.length cB))) (by kernel_rfl) ?_ (fun hHeld => ?_)
      · exact ⟨x0, x1, d0, d1⟩
      refine wpAnyH_take (i := 0) (v := ?v39) rfl (by kernel_rfl) (by kernel_rfl) (by kernel_rfl) (fun _ _ _ h => h) (Or.inl ⟨by kernel_rfl, ?hy39⟩) (by assumption) ?_
      case hy39 => (intro w9 hS9; (try dsimp only at hS9); go_simp; (try with_reducible rfl))
      try simp only [Act.put, List.getElem_toArray, List.getElem_cons_succ, List.getElem_cons_zero, List.setIfInBounds_toArray, List.set_cons_zero, List.set_cons_succ]
      refine wpAnyH_take (i := 1) (v := ?v40) rfl (by kernel_rfl) (by kernel_rfl) (by kernel_rfl) (fun _ _ _ h => h) (Or.inl ⟨by kernel_rfl, ?hy40⟩) (by assumption) ?_
      case hy40 => (intro w9 hS9; (try dsimp only at hS9); go_simp; (try with_reducible rfl))
      try simp only [Act.put, List.getElem_toArray, List.getElem_cons_succ, List.getElem_cons_zero, List.setIfInBounds_toArray, List.set_cons_zero, List.set_cons_succ]
      refine wpAnyH_ready (rs := [2]) (by kernel_rfl) (by simp) ?_
      refine AllReadyH.cons rfl (fun K9 hK9 => ?_) AllReadyH.nil
      rw [if_pos (by rfl)]
      go_simp
      refine hK9.out _ _ (⟨cell_setQ (by omega) (cell_setQ (by omega) x0), cell_setQ (by omega) (cell_setQ (by omega) x1), cell_setQ (by omega) (cell_setQ (by omega) d0), cell_setQ (by omega) (cell_setQ (by omega) d1)⟩) (fun hHeld2 => ?_)
      clear hK9 K9
      try simp only [Act.put, List.getElem_toArray, List.getElem_cons_succ, List.getElem_cons_zero, List.setIfInBounds_toArray, List.set_cons_zero, List.set_cons_succ]
      obtain ⟨e0, e1, e2, e3⟩ := hHeld2
      refine wpAnyH_ready (rs := [3]) (by kernel_rfl) (by simp) ?_
      refine AllReadyH.cons rfl (fun K9 hK9 => ?_) AllReadyH.nil
      rw [if_pos (by rfl)]
      go_simp
      refine hK9.out _ _ (⟨cell_setQ (by omega) (cell_setQ (by omega) e0), cell_setQ (by omega) (cell_setQ (by omega) e1), cell_setQ (by omega) (cell_setQ (by omega) e2), cell_setQ (by omega) (cell_setQ (by omega) e3)⟩) (fun hHeld3 => ?_)
      clear hK9 K9
      try simp only [Act.put, List.getElem_toArray, List.getElem_cons_succ, List.getElem_cons_zero, List.setIfInBounds_toArray, List.set_cons_zero, List.set_cons_succ]
      refine wpAnyH_done (by kernel_rfl) ?_ _
      go_wp2
      obtain ⟨st1, st2, hdw, hbe⟩ := HE8.out.done
      exact bodyPost_ret (v := .tuple #[.agg #[(.slice a1 x.affixes.length c1), (.slice a2 x.stems.length c2)], .agg #[(.slice (some ⟨gA, 0, none⟩) x.affixes.length cA), (.slice (some ⟨gB, 0, none⟩) x.stems.length cB)]]) (results_cc (p := 2) (q := 3) (ty := 27) (ty2 := 27) rfl _ _ w.heap.size (w.heap.size + 1) _ _ _ _ _ _ _ _ rfl st1 rfl st2 Tryz.underlying27 rfl infoGra Tryz.underlying27 rfl infoGra) rfl ⟨_, _, _, _, rfl, hdw, hbe.drew⟩
end Go.Proofs.YtndfhmphlomeiaaGreatDoor
