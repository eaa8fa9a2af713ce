/- Drawn grammars and derivations out of bytes: DrawGrammarText, DrawWordOf. Condition: at most 5000 bytes. -/
import Derived.Test.YtndfhmphlomeiaaGreatDoorQb
import Derived.Test.YtndfhmphlomeiaaGreatDoorK2
import Derived.Test.YtndfhmphlomeiaaGreatDoorK4
set_option linter.unusedSimpArgs false
namespace Go.Proofs.YtndfhmphlomeiaaGreatDoor
open Go.RowKit
attribute [local irreducible] Calls
set_option maxHeartbeats 4000000 in
set_option maxRecDepth 20000 in
theorem drawText_any (v : Value) (bs : List UInt8) (w : World) (hv : BytesR w v bs) (hl : bs.length ≤ 5000) :
    Calls Tryz.prog 5 #[v] w fun e w' => ∃ v1 v2 : Value, e = .returned (.agg #[v1, v2]) ∧ ReadG w.heap.size w' v1 v2 ∧ Below w.heap.size w w' := by
  obtain ⟨pa, pc, rfl, -, -⟩ := hv.shape
  have hb0 := one_belowQ w (.cells #[.slice none 0 0, .slice none 0 0] 27)
  have rA := heap_alloc_new w (.cells #[.slice none 0 0, .slice none 0 0] 27)
  have hz0 : (w.alloc (.cells #[.slice none 0 0, .slice none 0 0] 27)).heap.size = w.heap.size + 1 := by simp
  have HV := Lib.hid (hv.below hb0)
  go_enter Tryz.func5, Tryz.ntmps5
  go_wp2_with fail
  refine (l00From_any _ bs _ HV.out hl).mono ?_
  rintro e w1 ⟨rfl, hs1, hb1⟩
  have HS1 := Lib.hid hs1
  rw [hz0] at HS1
  have hz1 := hb1.size
  rw [hz0] at hz1
  have HB1 := Lib.hid (hb0.trans (hb1.mono (by omega)))
  have HR1 := Lib.hid ((hb1.block w.heap.size (by omega)).trans rA)
  clear hs1 hb1 hb0 rA hv HV
  go_wp2_with fail
  refine (l04Bent_any _ bs 0 w1 HS1.out (by omega)).mono ?_
  rintro e w2 ⟨v1, v2, rfl, ⟨⟨x, hx, hn⟩, -⟩, hkk2⟩
  have hz2 := hkk2.size
  obtain ⟨a1, c1, a2, c2, e⟩ := hx.shape
  injection e with e
  simp only [Array.mk.injEq, List.cons.injEq, and_true] at e
  obtain ⟨e1, e2⟩ := e
  subst e1 e2
  have HR2 := Lib.hid ((hkk2.block w.heap.size (by omega) (.inl (by omega))).trans HR1.out)
  have HB2 := Lib.hid (HB1.out.trans (hkk2.below (by omega) (by omega)))
  have HX := Lib.hid hx
  have HN := Lib.hid hn
  obtain ⟨d0, y0⟩ := src_cell (i := 0) (v := .slice none 0 0) HR2.out rfl
  obtain ⟨d1, y1⟩ := src_cell (i := 1) (v := .slice none 0 0) HR2.out rfl
  clear hx hn hkk2
  go_wp2
  have st := store2 HR2.out (.slice a1 x.affixes.length c1) (.slice a2 x.stems.length c2)
  refine bodyPost_ret (v := .agg #[.slice a1 x.affixes.length c1, .slice a2 x.stems.length c2]) (results_cell_row (p := 2) (ty := 27) rfl _ _ w.heap.size _ _ _ _ rfl st.1 Tryz.underlying27 rfl infoGra) rfl ⟨_, _, rfl, ⟨x, ?_, HN.out⟩, HB2.out.trans (st.2.1.below (Nat.le_refl _) HB2.out.size)⟩
  exact (HX.out.kept st.2.1 (.inr (by omega))).mono (by omega) (by rw [st.2.2]; exact Nat.le_refl _)
set_option maxHeartbeats 16000000 in
set_option maxRecDepth 100000 in
theorem drawWord_any (v : Value) (bs : List UInt8) (w : World) (hv : BytesR w v bs) (hl : bs.length ≤ 5000) :
    Calls Tryz.prog 11 #[v] w fun e w' => ∃ (v1 v2 : Value) (s : ByteArray) (u : Value), e = .returned (.tuple #[.agg #[v1, v2], .agg #[.string s, u]]) ∧ DrwW w.heap.size w' v1 v2 s u ∧ Below w.heap.size w w' := by
  obtain ⟨pa, pc, rfl, -, -⟩ := hv.shape
  have hb0 : Below w.heap.size w ((w.alloc (.cells #[.slice none 0 0, .slice none 0 0] 27)).alloc (.cells #[.string ⟨#[]⟩, .slice none 0 0] 37)) := (one_belowQ w (.cells #[.slice none 0 0, .slice none 0 0] 27)).trans ((one_belowQ (w.alloc (.cells #[.slice none 0 0, .slice none 0 0] 27)) (.cells #[.string ⟨#[]⟩, .slice none 0 0] 37)).mono (by simp))
  have rA := heap_alloc2_old w (.cells #[.slice none 0 0, .slice none 0 0] 27) (.cells #[.string ⟨#[]⟩, .slice none 0 0] 37)
  have rB := heap_alloc2_new w (.cells #[.slice none 0 0, .slice none 0 0] 27) (.cells #[.string ⟨#[]⟩, .slice none 0 0] 37)
  have hz0 : ((w.alloc (.cells #[.slice none 0 0, .slice none 0 0] 27)).alloc (.cells #[.string ⟨#[]⟩, .slice none 0 0] 37)).heap.size = w.heap.size + 2 := by simp
  have HV := Lib.hid (hv.below hb0)
  go_enter Tryz.func11, Tryz.ntmps11
  go_wp2_with fail
  refine (l00From_any _ bs _ HV.out hl).mono ?_
  rintro e w1 ⟨rfl, hs1, hb1⟩
  have HS1 := Lib.hid hs1
  rw [hz0] at HS1
  have hz1 := hb1.size
  rw [hz0] at hz1
  have HB1 := Lib.hid (hb0.trans (hb1.mono (by omega)))
  have HR1 := Lib.hid ((hb1.block w.heap.size (by omega)).trans rA)
  have HR2 := Lib.hid ((hb1.block (w.heap.size + 1) (by omega)).trans rB)
  clear hs1 hb1 hb0 rA rB hv HV
  obtain ⟨g, hgE⟩ : ∃ g, g = w.heap.size + 2 := ⟨_, rfl⟩
  rw [← hgE] at HS1
  have hg1 := HS1.out.lt
  have hg2 : w.heap.size + 2 ≤ g := by omega
  have HgE := Lib.hid hgE
  clear hgE
  go_wp2_with fail
  rw [show w.heap.size + 1 + 1 = g from HgE.out.symm]
  refine (l04Bent_any g bs 0 w1 HS1.out (by omega)).mono ?_
  rintro e w2 ⟨v1, v2, rfl, ⟨⟨x, hx, hn⟩, k2, hk2, hs2⟩, hkk2⟩
  have hz2 := hkk2.size
  obtain ⟨a1, c1, a2, c2, e⟩ := hx.shape
  injection e with e
  simp only [Array.mk.injEq, List.cons.injEq, and_true] at e
  obtain ⟨e1, e2⟩ := e
  subst e1 e2
  have hbA : Below w2.heap.size w2 ((w2.alloc (.cells #[(.slice a1 x.affixes.length c1), (.slice a2 x.stems.length c2)] 27)).alloc (.cells #[.string ⟨#[116, 101, 115, 116]⟩, .slice none 0 0] 37)) := (one_belowQ w2 (.cells #[(.slice a1 x.affixes.length c1), (.slice a2 x.stems.length c2)] 27)).trans ((one_belowQ (w2.alloc (.cells #[(.slice a1 x.affixes.length c1), (.slice a2 x.stems.length c2)] 27)) (.cells #[.string ⟨#[116, 101, 115, 116]⟩, .slice none 0 0] 37)).mono (by simp))
  have hzA : ((w2.alloc (.cells #[(.slice a1 x.affixes.length c1), (.slice a2 x.stems.length c2)] 27)).alloc (.cells #[.string ⟨#[116, 101, 115, 116]⟩, .slice none 0 0] 37)).heap.size = w2.heap.size + 2 := by simp
  obtain ⟨gb, hgbE⟩ : ∃ gb, gb = w2.heap.size := ⟨_, rfl⟩
  have HE4 : Hid (EndW w ((w2.alloc (.cells #[(.slice a1 x.affixes.length c1), (.slice a2 x.stems.length c2)] 27)).alloc (.cells #[.string ⟨#[116, 101, 115, 116]⟩, .slice none 0 0] 37)) (gb + 2) g gb (gb + 1) (.slice a1 x.affixes.length c1) (.slice a2 x.stems.length c2) ⟨#[116, 101, 115, 116]⟩ (.slice none 0 0) []) := Lib.hid (by rw [hgbE]; exact ⟨heap_alloc2_old w2 (.cells #[(.slice a1 x.affixes.length c1), (.slice a2 x.stems.length c2)] 27) (.cells #[.string ⟨#[116, 101, 115, 116]⟩, .slice none 0 0] 37), heap_alloc2_new w2 (.cells #[(.slice a1 x.affixes.length c1), (.slice a2 x.stems.length c2)] 27) (.cells #[.string ⟨#[116, 101, 115, 116]⟩, .slice none 0 0] 37), (hbA.block _ (by omega)).trans ((hkk2.block _ (by omega) (.inl (by omega))).trans HR1.out), (hbA.block _ (by omega)).trans ((hkk2.block _ (by omega) (.inl (by omega))).trans HR2.out), ⟨x, (hx.below hbA).mono (by omega) (Nat.le_refl _), hn⟩, World.ownsRow_nil _ _ _ _, by simp, by decide, (HB1.out.trans (hkk2.below (by omega) (by omega))).trans (hbA.mono (by omega)), hg2, by omega, by omega, by omega⟩)
  have HS4 := Lib.hid (hs2.below hbA)
  have HXg : Hid (GraW ((w2.alloc (.cells #[(.slice a1 x.affixes.length c1), (.slice a2 x.stems.length c2)] 27)).alloc (.cells #[.string ⟨#[116, 101, 115, 116]⟩, .slice none 0 0] 37)) (g + 1) gb (.agg #[(.slice a1 x.affixes.length c1), (.slice a2 x.stems.length c2)]) x) := Lib.hid ((hx.below hbA).mono (by omega) (by omega))
  have HNg := Lib.hid hn
  have hxs := hn.sl
  clear hx hn hs2 hkk2 HR1 HR2 HB1 HS1
  go_upto_region 4 with fail
  generalize ((w2.alloc (.cells #[(.slice a1 x.affixes.length c1), (.slice a2 x.stems.length c2)] 27)).alloc (.cells #[.string ⟨#[116, 101, 115, 116]⟩, .slice none 0 0] 37)) = w4 at HE4 HS4 HXg hbA hzA ⊢
  clear hbA
  rw [← hgbE]
  rw [← hgbE] at hzA
  have hgb1 : g + 1 ≤ gb := by omega
  clear hgbE hz0
  obtain ⟨x4, y4⟩ := HE4.out.box.c1
  have hk2 : k2 ≤ 2000 := by omega
  go_cut [22] (fun s22 wz => ∃ b : Bool, s22 = .bool b ∧ IfAt w wz g gb (.slice a1 x.affixes.length c1) (.slice a2 x.stems.length c2) bs x ⟨#[116, 101, 115, 116]⟩ b)
  case first =>
    by_cases hpos : 0 < x.stems.length
    · have hposI : (0 : Int) < (x.stems.length : Int) := by omega
      go_wp2_with fail
      refine (one_any g bs k2 10 _ _ HS4.out (by omega) rfl (by omega)).mono ?_
      rintro e w5 ⟨b5, k5, rfl, hk5, hs5, hkk5⟩
      have hz5 := hkk5.size
      have HE5 := Lib.hid (HE4.out.kept hkk5)
      have HS5 := Lib.hid hs5
      have HX5 := Lib.hid (HXg.out.kept hkk5 (.inr (Nat.le_refl _)))
      clear hs5 hkk5
      go_wp2_with fail
      go_meet
      exact ⟨_, rfl, k5, HE5.out, by omega, HX5.out, fun _ => hpos, by omega, HS5.out⟩
    · have hposI : ¬ ((0 : Int) < (x.stems.length : Int)) := by omega
      go_wp2_with fail
      go_meet
      exact ⟨_, rfl, k2, HE4.out, by omega, HXg.out, fun h => by simp at h, by omega, HS4.out⟩
  case rest =>
    obtain ⟨b, rfl, k5, he5, hz5, hx5, hpos, hk5, hs5⟩ := hcut
    have HE5 := Lib.hid he5
    have HX5 := Lib.hid hx5
    have HS5 := Lib.hid hs5
    have HP := Lib.hid hpos
    clear he5 hx5 hs5 hpos HE4 HS4 HXg x4 y4
    obtain ⟨w5, hw5⟩ : ∃ z, z = wc := ⟨_, rfl⟩
    subst hw5
    go_upto_if 22 with fail
    go_cut [4] (fun s4 wz => s4 = .pointer (some ⟨g, 0, none⟩) ∧ WoAt w wz g gb (.slice a1 x.affixes.length c1) (.slice a2 x.stems.length c2) bs 8000)
    case first =>
      cases b
      · go_wp2_with fail
        go_meet
        exact ⟨rfl, gb + 2, _, none, 0, [], k5, HE5.out, hz5, by simp, by omega, HS5.out⟩
      · have hpos := HP.out rfl
        obtain ⟨b2, o2, aa, cc, ea2, -, -, -, -⟩ := HX5.out.stemAt 0 hpos
        subst ea2
        obtain ⟨x5, y5⟩ := HE5.out.box.c1
        go_upto_region 5 with fail
        go_cut [7] (fun s7 wz => ∃ xb : Nat, s7 = .pointer (some ⟨xb, 0, none⟩) ∧ XAt w wz g gb (.slice a1 x.affixes.length c1) (.slice (some ⟨b2, o2, none⟩) x.stems.length c2) bs ⟨#[116, 101, 115, 116]⟩ xb)
        case first =>
          refine wp_region_held_drew (S := (fun w' => w'.cell? ⟨gb, 1, none⟩ = some (.slice (some ⟨b2, o2, none⟩) x.stems.length c2))) (by kernel_rfl) ?_ (fun hHeld => ?_)
          · exact x5
          refine wpAnyH_take (i := 0) (v := ?v2) rfl (by kernel_rfl) (by kernel_rfl) (by kernel_rfl) (fun _ _ _ h => h) (Or.inl ⟨by kernel_rfl, ?hy2⟩) (by assumption) ?_
          case hy2 => (intro w9 hS9; (try dsimp only at hS9); go_simp; (try with_reducible rfl))
          try simp only [Act.put, List.getElem_toArray, List.getElem_cons_succ, List.getElem_cons_zero, List.setIfInBounds_toArray, List.set_cons_zero, List.set_cons_succ]
          refine wpAnyH_take (i := 1) (v := ?v3) rfl (by kernel_rfl) (by kernel_rfl) (by kernel_rfl) (fun _ _ _ h => h) (Or.inl ⟨by kernel_rfl, ?hy3⟩) (by assumption) ?_
          case hy3 => (intro w9 hS9; (try dsimp only at hS9); go_simp; (try with_reducible rfl))
          try simp only [Act.put, List.getElem_toArray, List.getElem_cons_succ, List.getElem_cons_zero, List.setIfInBounds_toArray, List.set_cons_zero, List.set_cons_succ]
          refine wpAnyH_take (i := 2) (v := ?v4) rfl (by kernel_rfl) (by kernel_rfl) (by kernel_rfl) (fun _ _ _ h => h) (Or.inl ⟨by kernel_rfl, ?hy4⟩) (by assumption) ?_
          case hy4 => (intro w9 hS9; (try dsimp only at hS9); go_simp; (try with_reducible rfl))
          try simp only [Act.put, List.getElem_toArray, List.getElem_cons_succ, List.getElem_cons_zero, List.setIfInBounds_toArray, List.set_cons_zero, List.set_cons_succ]
          refine wpAnyH_take (i := 3) (v := ?v5) rfl (by kernel_rfl) (by kernel_rfl) (by kernel_rfl) (fun _ _ _ h => h) (Or.inl ⟨by kernel_rfl, ?hy5⟩) (by assumption) ?_
          case hy5 => (intro w9 hS9; (try dsimp only at hS9); go_simp; (try with_reducible rfl))
          try simp only [Act.put, List.getElem_toArray, List.getElem_cons_succ, List.getElem_cons_zero, List.setIfInBounds_toArray, List.set_cons_zero, List.set_cons_succ]
          refine wpAnyH_take (i := 4) (v := ?v6) rfl (by kernel_rfl) (by kernel_rfl) (by kernel_rfl) (fun _ _ _ h => h) (Or.inl ⟨by kernel_rfl, ?hy6⟩) (by assumption) ?_
          case hy6 => (intro w9 hS9; (try dsimp only at hS9); go_simp; (try with_reducible rfl))
          try simp only [Act.put, List.getElem_toArray, List.getElem_cons_succ, List.getElem_cons_zero, List.setIfInBounds_toArray, List.set_cons_zero, List.set_cons_succ]
          refine wpAnyH_take (i := 5) (v := ?v7) rfl (by kernel_rfl) (by kernel_rfl) (by kernel_rfl) (fun _ _ _ h => h) (Or.inl ⟨by kernel_rfl, ?hy7⟩) (by assumption) ?_
          case hy7 => (intro w9 hS9; (try dsimp only at hS9); go_simp; (try with_reducible rfl))
          try simp only [Act.put, List.getElem_toArray, List.getElem_cons_succ, List.getElem_cons_zero, List.setIfInBounds_toArray, List.set_cons_zero, List.set_cons_succ]
          refine wpAnyH_ready (rs := [6, 9]) (by kernel_rfl) (by simp) ?_
          refine AllReadyH.cons rfl (fun K9 hK9 => ?_) (AllReadyH.cons rfl (fun K9 hK9 => ?_) (AllReadyH.nil))
          · rw [if_pos (by rfl)]
            go_wp2_with (go_at_call 35; refine (pick_any g bs k5 x.stems.length _ _ (HS5.out.below ((Below.refl w5.heap.size w5).drew)) (by omega) rfl (by omega)).mono ?_; rintro e w6 ⟨r6, k6, rfl, hr6, hk6, hs6, hkk6⟩)
            have HW6 := Lib.hid hkk6
            have hkk6 : Kept g (g + 1) w5 w6 := (Kept.of_below ((Below.refl w5.heap.size w5).drew)).trans hkk6
            have hz6 := hkk6.size
            have hr6 : r6 < x.stems.length := by omega
            have hr6I : (r6 : Int) < (x.stems.length : Int) := by omega
            have HE6 := Lib.hid (HE5.out.kept hkk6)
            have HX6 := Lib.hid (HX5.out.kept hkk6 (.inr (Nat.le_refl _)))
            obtain ⟨sm, b9, o9, a3, c3, ea9, hcw, hcu, hwl, hul, hui⟩ := HX6.out.stemS HNg.out r6 hr6
            cases ea9
            have c6 := HE6.out.box.c1.1
            have HUI := Lib.hid hui
            clear hui
            have HS6 := Lib.hid hs6
            refine hK9.out _ _ (c6) (fun hHeld2 => ?_)
            clear hK9 K9
            try simp only [Act.put, List.getElem_toArray, List.getElem_cons_succ, List.getElem_cons_zero, List.setIfInBounds_toArray, List.set_cons_zero, List.set_cons_succ]
            refine wpAnyH_take (i := 7) (v := ?v8) rfl (by kernel_rfl) (by kernel_rfl) (by kernel_rfl) (fun _ _ _ h => h) (Or.inl ⟨by kernel_rfl, ?hy8⟩) (by assumption) ?_
            case hy8 => (intro w9 hS9; (try dsimp only at hS9); go_simp; (try with_reducible rfl))
            try simp only [Act.put, List.getElem_toArray, List.getElem_cons_succ, List.getElem_cons_zero, List.setIfInBounds_toArray, List.set_cons_zero, List.set_cons_succ]
            refine wpAnyH_ready (rs := [8, 9]) (by kernel_rfl) (by simp) ?_
            refine AllReadyH.cons rfl (fun K9 hK9 => ?_) (AllReadyH.cons rfl (fun K9 hK9 => ?_) (AllReadyH.nil))
            · rw [if_pos (by rfl)]
              go_simp
              refine hK9.out _ _ ((by assumption)) (fun hHeld3 => ?_)
              clear hK9 K9
              try simp only [Act.put, List.getElem_toArray, List.getElem_cons_succ, List.getElem_cons_zero, List.setIfInBounds_toArray, List.set_cons_zero, List.set_cons_succ]
              refine wpAnyH_ready (rs := [9]) (by kernel_rfl) (by simp) ?_
              refine AllReadyH.cons rfl (fun K9 hK9 => ?_) AllReadyH.nil
              rw [if_pos (by rfl)]
              go_simp
              refine hK9.out _ _ (cell_allocQ _ c6) (fun hHeld4 => ?_)
              clear hK9 K9
              try simp only [Act.put, List.getElem_toArray, List.getElem_cons_succ, List.getElem_cons_zero, List.setIfInBounds_toArray, List.set_cons_zero, List.set_cons_succ]
              have hbxY := heap_alloc_new w6 (.cells #[.string ⟨#[]⟩, .slice none 0 0] 59)
              obtain ⟨t0, f0⟩ := src_cell (i := 0) (v := .string ⟨#[]⟩) hbxY rfl
              obtain ⟨t1, f1⟩ := src_cell (i := 1) (v := .slice none 0 0) hbxY rfl
              have hzY := (one_belowQ w6 (.cells #[.string ⟨#[]⟩, .slice none 0 0] 59)).size
              refine wpAnyH_ready (rs := [10]) (by kernel_rfl) (by simp) ?_
              refine AllReadyH.cons rfl (fun K9 hK9 => ?_) AllReadyH.nil
              rw [if_pos (by rfl)]
              go_simp
              refine hK9.out _ _ (cell_allocQ _ c6) (fun hHeld5 => ?_)
              clear hK9 K9
              try simp only [Act.put, List.getElem_toArray, List.getElem_cons_succ, List.getElem_cons_zero, List.setIfInBounds_toArray, List.set_cons_zero, List.set_cons_succ]
              refine wpAnyH_done (by kernel_rfl) ?_ _
              go_wp2_with fail
              go_meet
              refine ⟨w6.heap.size, rfl, sm.word, a3, c3, sm.uses, k6, HE6.out.under (one_belowQ w6 (.cells #[.string sm.word, .slice a3 sm.uses.length c3] 59)), heap_alloc_new w6 _, by omega, fun i hi => ?_, hwl, hul, by omega, HS6.out.below (one_belowQ w6 (.cells #[.string sm.word, .slice a3 sm.uses.length c3] 59))⟩
              obtain ⟨b3, o3, e3, h1, h2, h3, h4⟩ := HUI.out i hi
              exact ⟨b3, o3, e3, h1, h2, cell_allocQ _ h3, h4⟩
            · rw [if_pos (by rfl)]
              go_simp
              refine hK9.out _ _ (cell_allocQ _ c6) (fun hHeld3 => ?_)
              clear hK9 K9
              try simp only [Act.put, List.getElem_toArray, List.getElem_cons_succ, List.getElem_cons_zero, List.setIfInBounds_toArray, List.set_cons_zero, List.set_cons_succ]
              have hcwa := cell_allocQ (.cells #[.string ⟨#[]⟩, .slice none 0 0] 59) hcw
              have hcua := cell_allocQ (.cells #[.string ⟨#[]⟩, .slice none 0 0] 59) hcu
              refine wpAnyH_ready (rs := [8]) (by kernel_rfl) (by simp) ?_
              refine AllReadyH.cons rfl (fun K9 hK9 => ?_) AllReadyH.nil
              rw [if_pos (by rfl)]
              go_simp
              refine hK9.out _ _ ((by assumption)) (fun hHeld4 => ?_)
              clear hK9 K9
              try simp only [Act.put, List.getElem_toArray, List.getElem_cons_succ, List.getElem_cons_zero, List.setIfInBounds_toArray, List.set_cons_zero, List.set_cons_succ]
              have hbxY := heap_alloc_new w6 (.cells #[.string ⟨#[]⟩, .slice none 0 0] 59)
              obtain ⟨t0, f0⟩ := src_cell (i := 0) (v := .string ⟨#[]⟩) hbxY rfl
              obtain ⟨t1, f1⟩ := src_cell (i := 1) (v := .slice none 0 0) hbxY rfl
              have hzY := (one_belowQ w6 (.cells #[.string ⟨#[]⟩, .slice none 0 0] 59)).size
              refine wpAnyH_ready (rs := [10]) (by kernel_rfl) (by simp) ?_
              refine AllReadyH.cons rfl (fun K9 hK9 => ?_) AllReadyH.nil
              rw [if_pos (by rfl)]
              go_simp
              refine hK9.out _ _ (cell_allocQ _ c6) (fun hHeld5 => ?_)
              clear hK9 K9
              try simp only [Act.put, List.getElem_toArray, List.getElem_cons_succ, List.getElem_cons_zero, List.setIfInBounds_toArray, List.set_cons_zero, List.set_cons_succ]
              refine wpAnyH_done (by kernel_rfl) ?_ _
              go_wp2_with fail
              go_meet
              refine ⟨w6.heap.size, rfl, sm.word, a3, c3, sm.uses, k6, HE6.out.under (one_belowQ w6 (.cells #[.string sm.word, .slice a3 sm.uses.length c3] 59)), heap_alloc_new w6 _, by omega, fun i hi => ?_, hwl, hul, by omega, HS6.out.below (one_belowQ w6 (.cells #[.string sm.word, .slice a3 sm.uses.length c3] 59))⟩
              obtain ⟨b3, o3, e3, h1, h2, h3, h4⟩ := HUI.out i hi
              exact ⟨b3, o3, e3, h1, h2, cell_allocQ _ h3, h4⟩
          · rw [if_pos (by rfl)]
            go_simp
            refine hK9.out _ _ (cell_allocQ _ x5) (fun hHeld2 => ?_)
            clear hK9 K9
            try simp only [Act.put, List.getElem_toArray, List.getElem_cons_succ, List.getElem_cons_zero, List.setIfInBounds_toArray, List.set_cons_zero, List.set_cons_succ]
            have hbA : Below w5.heap.size w5 (w5.drew.alloc (.cells #[.string ⟨#[]⟩, .slice none 0 0] 59)) := (Below.refl w5.heap.size w5).drew.trans (one_belowQ w5.drew (.cells #[.string ⟨#[]⟩, .slice none 0 0] 59))
            refine wpAnyH_ready (rs := [6]) (by kernel_rfl) (by simp) ?_
            refine AllReadyH.cons rfl (fun K9 hK9 => ?_) AllReadyH.nil
            rw [if_pos (by rfl)]
            go_wp2_with (go_at_call 35; refine (pick_any g bs k5 x.stems.length _ _ (HS5.out.below hbA) (by omega) rfl (by omega)).mono ?_; rintro e w6 ⟨r6, k6, rfl, hr6, hk6, hs6, hkk6⟩)
            have HW6 := Lib.hid hkk6
            have hkk6 : Kept g (g + 1) w5 w6 := (Kept.of_below hbA).trans hkk6
            have hz6 := hkk6.size
            have hr6 : r6 < x.stems.length := by omega
            have hr6I : (r6 : Int) < (x.stems.length : Int) := by omega
            have HE6 := Lib.hid (HE5.out.kept hkk6)
            have HX6 := Lib.hid (HX5.out.kept hkk6 (.inr (Nat.le_refl _)))
            obtain ⟨sm, b9, o9, a3, c3, ea9, hcw, hcu, hwl, hul, hui⟩ := HX6.out.stemS HNg.out r6 hr6
            cases ea9
            have c6 := HE6.out.box.c1.1
            have HUI := Lib.hid hui
            clear hui
            have HS6 := Lib.hid hs6
            refine hK9.out _ _ (c6) (fun hHeld3 => ?_)
            clear hK9 K9
            try simp only [Act.put, List.getElem_toArray, List.getElem_cons_succ, List.getElem_cons_zero, List.setIfInBounds_toArray, List.set_cons_zero, List.set_cons_succ]
            refine wpAnyH_take (i := 7) (v := ?v1) rfl (by kernel_rfl) (by kernel_rfl) (by kernel_rfl) (fun _ _ _ h => h) (Or.inl ⟨by kernel_rfl, ?hy1⟩) (by assumption) ?_
            case hy1 => (intro w9 hS9; (try dsimp only at hS9); go_simp; (try with_reducible rfl))
            try simp only [Act.put, List.getElem_toArray, List.getElem_cons_succ, List.getElem_cons_zero, List.setIfInBounds_toArray, List.set_cons_zero, List.set_cons_succ]
            refine wpAnyH_ready (rs := [8]) (by kernel_rfl) (by simp) ?_
            refine AllReadyH.cons rfl (fun K9 hK9 => ?_) AllReadyH.nil
            rw [if_pos (by rfl)]
            go_simp
            refine hK9.out _ _ ((by assumption)) (fun hHeld4 => ?_)
            clear hK9 K9
            try simp only [Act.put, List.getElem_toArray, List.getElem_cons_succ, List.getElem_cons_zero, List.setIfInBounds_toArray, List.set_cons_zero, List.set_cons_succ]
            have hbxY : w6.heap[w5.heap.size]? = some (.cells #[.string ⟨#[]⟩, .slice none 0 0] 59 (0, 0)) := (HW6.out.block _ (by simp) (.inr (by omega))).trans (heap_alloc_new w5.drew _)
            obtain ⟨t0, f0⟩ := src_cell (i := 0) (v := .string ⟨#[]⟩) hbxY rfl
            obtain ⟨t1, f1⟩ := src_cell (i := 1) (v := .slice none 0 0) hbxY rfl
            refine wpAnyH_ready (rs := [10]) (by kernel_rfl) (by simp) ?_
            refine AllReadyH.cons rfl (fun K9 hK9 => ?_) AllReadyH.nil
            rw [if_pos (by rfl)]
            go_simp
            refine hK9.out _ _ (cell_setQ (by omega) (cell_setQ (by omega) c6)) (fun hHeld5 => ?_)
            clear hK9 K9
            try simp only [Act.put, List.getElem_toArray, List.getElem_cons_succ, List.getElem_cons_zero, List.setIfInBounds_toArray, List.set_cons_zero, List.set_cons_succ]
            refine wpAnyH_done (by kernel_rfl) ?_ _
            go_wp2_with fail
            go_meet
            have st := store2 hbxY (.string sm.word) (.slice a3 sm.uses.length c3)
            have hbY : Below (gb + 2) (w6) (((w6).setCell ⟨w5.heap.size, 0, none⟩ (.string sm.word)).setCell ⟨w5.heap.size, 1, none⟩ (.slice a3 sm.uses.length c3)) := st.2.1.below (by omega) (by omega)
            refine ⟨w5.heap.size, rfl, sm.word, a3, c3, sm.uses, k6, HE6.out.lowNil (hbY.mono (by omega)), st.1, by omega, fun i hi => ?_, hwl, hul, by omega, ?_⟩
            · obtain ⟨b3, o3, e3, h1, h2, h3, h4⟩ := HUI.out i hi
              exact ⟨b3, o3, e3, h1, h2, cell_setQ (by omega) (cell_setQ (by omega) (h3)), h4⟩
            · exact (HS6.out).low (hbY.mono (by omega))
        case rest =>
          obtain ⟨xb, rfl, wd, a3, c3, us, k6, he6, hbx, hxb, hui, hwl, hul, hk6, hs6⟩ := hcut
          obtain ⟨w6, hw6⟩ : ∃ z, z = wc := ⟨_, rfl⟩
          subst hw6
          have hz6 := he6.ltd
          obtain ⟨⟨dc0, df0⟩, he7, hk7⟩ := (he6.rebase (B2 := xb + 1) (by omega)).word wd hwl
          obtain ⟨t0, f0⟩ := src_cell (i := 0) (v := .string wd) hbx rfl
          have hxl := (Array.getElem?_eq_some_iff.1 hbx).1
          have HE7 := Lib.hid he7
          have HB7 := Lib.hid ((Below.heap_setCell w6 ⟨gb + 1, 0, none⟩ (.string wd) xb (by show xb ≠ gb + 1; omega)).trans hbx)
          have HS7 := Lib.hid (hs6.low (hk7.low (by omega) (by omega)))
          have HU7 : Hid (∀ i (_ : i < us.length), ∃ b3 o3, a3 = some ⟨b3, o3, none⟩ ∧ g + 1 ≤ b3 ∧ b3 < gb ∧ (w6.setCell ⟨gb + 1, 0, none⟩ (.string wd)).cell? ⟨b3, o3 + i, none⟩ = some (.string us[i]) ∧ us[i].size ≤ maxLen) := Lib.hid fun i hi => by obtain ⟨b3, o3, e3, h1, h2, h3, h4⟩ := hui i hi; exact ⟨b3, o3, e3, h1, h2, cell_setQ (by omega) h3, h4⟩
          have hz7 : xb < (w6.setCell ⟨gb + 1, 0, none⟩ (.string wd)).heap.size := by rw [size_set]; exact hxl
          clear he6 he7 hk7 hbx hui hs6 HE5 HX5 HS5 HP x5 y5
          go_upto_region 7 with fail
          generalize w6.setCell ⟨gb + 1, 0, none⟩ (.string wd) = w7 at HE7 HB7 HS7 HU7 hz7 ⊢
          clear dc0 df0 t0 f0
          go_wp2_with fail
          refine (pick_any g bs k6 3 _ _ HS7.out (by omega) rfl (by omega)).mono ?_
          rintro e w8 ⟨r8, k8, rfl, hr8, hk8, hs8, hkk8⟩
          have hz8 := hkk8.size
          have HE8 := Lib.hid (HE7.out.kept hkk8)
          have HB8 := Lib.hid ((hkk8.block xb hz7 (.inr (by omega))).trans HB7.out)
          have HS8 := Lib.hid hs8
          have HU8 : Hid (∀ i (_ : i < us.length), ∃ b3 o3, a3 = some ⟨b3, o3, none⟩ ∧ g + 1 ≤ b3 ∧ b3 < gb ∧ w8.cell? ⟨b3, o3 + i, none⟩ = some (.string us[i]) ∧ us[i].size ≤ maxLen) := Lib.hid fun i hi => by obtain ⟨b3, o3, e3, h1, h2, h3, h4⟩ := HU7.out i hi; exact ⟨b3, o3, e3, h1, h2, cell_kept hkk8 h3 (.inr (by show g + 1 ≤ b3; exact h1)), h4⟩
          have hr8 : r8 ≤ 2 := by omega
          clear hkk8 hs8 HE7 HB7 HS7 HU7
          go_wp2_with fail
          go_loopw [8] (fun i wr => ∃ (n kr : Nat) (a9 : Option Addr) (c9 : Nat) (L : List ByteArray), i = .int .i64 (n : Int) ∧ L.length + n ≤ 2 ∧ kr + 4 * n ≤ 7000 ∧ Hid (SrcW wr g bs kr) ∧ Hid (EndW w wr (xb + 1) g gb (gb + 1) (.slice a1 x.affixes.length c1) (.slice (some ⟨b2, o2, none⟩) x.stems.length c2) wd (.slice a9 L.length c9) L) ∧ Hid (KeepQ (xb + 1) (gb + 1) g w8 wr)) (fun i _ => (intOf i).toNat)
          case atStart => exact ⟨r8, k8, none, 0, [], rfl, by simpa using hr8, by omega, HS8, HE8, Lib.hid (KeepQ.refl _ _ _ _)⟩
          case round =>
            clear HS8 HE8
            obtain ⟨n, kr, a9, c9, L, rfl, hLn, hkr, HSr, HEr, HKr⟩ := hrel
            have hszr := HKr.out.size
            have hcx : wr.cell? ⟨xb, 1, none⟩ = some (.slice a3 us.length c3) := HKr.out.cell (by omega) (by omega) (by omega) (src_cell (i := 1) HB8.out rfl).1
            by_cases hn : 0 < n
            · have hnI : (0 : Int) < (n : Int) := by omega
              by_cases hu : 0 < us.length
              · have huI : (0 : Int) < (us.length : Int) := by omega
                obtain ⟨b3, o3, e3, -, -, -, -⟩ := HU8.out 0 hu
                subst e3
                obtain ⟨dd, df⟩ := src_cell (i := 1) (v := (.slice a9 L.length c9)) HEr.out.der rfl
                have ddd : wr.drew.cell? ⟨gb + 1, 1, none⟩ = some (.slice a9 L.length c9) := dd
                go_upto_region 10 with fail
                refine wp_region_held_drew (S := (fun w' => w'.cell? ⟨xb, 1, none⟩ = some (.slice (some ⟨b3, o3, none⟩) us.length c3))) (by kernel_rfl) ?_ (fun hHeld => ?_)
                · exact hcx
                refine wpAnyH_take (i := 0) (v := ?v9) rfl (by kernel_rfl) (by kernel_rfl) (by kernel_rfl) (fun _ _ _ h => h) (Or.inl ⟨by kernel_rfl, ?hy9⟩) (by assumption) ?_
                case hy9 => (intro w9 hS9; (try dsimp only at hS9); go_simp; (try with_reducible rfl))
                try simp only [Act.put, List.getElem_toArray, List.getElem_cons_succ, List.getElem_cons_zero, List.setIfInBounds_toArray, List.set_cons_zero, List.set_cons_succ]
                refine wpAnyH_take (i := 2) (v := ?v10) rfl (by kernel_rfl) (by kernel_rfl) (by kernel_rfl) (fun _ _ _ h => h) (Or.inl ⟨by kernel_rfl, ?hy10⟩) (by assumption) ?_
                case hy10 => (intro w9 hS9; (try dsimp only at hS9); go_simp; (try with_reducible rfl))
                try simp only [Act.put, List.getElem_toArray, List.getElem_cons_succ, List.getElem_cons_zero, List.setIfInBounds_toArray, List.set_cons_zero, List.set_cons_succ]
                refine wpAnyH_take (i := 3) (v := ?v11) rfl (by kernel_rfl) (by kernel_rfl) (by kernel_rfl) (fun _ _ _ h => h) (Or.inl ⟨by kernel_rfl, ?hy11⟩) (by assumption) ?_
                case hy11 => (intro w9 hS9; (try dsimp only at hS9); go_simp; (try with_reducible rfl))
                try simp only [Act.put, List.getElem_toArray, List.getElem_cons_succ, List.getElem_cons_zero, List.setIfInBounds_toArray, List.set_cons_zero, List.set_cons_succ]
                refine wpAnyH_take (i := 4) (v := ?v12) rfl (by kernel_rfl) (by kernel_rfl) (by kernel_rfl) (fun _ _ _ h => h) (Or.inl ⟨by kernel_rfl, ?hy12⟩) (by assumption) ?_
                case hy12 => (intro w9 hS9; (try dsimp only at hS9); go_simp; (try with_reducible rfl))
                try simp only [Act.put, List.getElem_toArray, List.getElem_cons_succ, List.getElem_cons_zero, List.setIfInBounds_toArray, List.set_cons_zero, List.set_cons_succ]
                refine wpAnyH_take (i := 5) (v := ?v13) rfl (by kernel_rfl) (by kernel_rfl) (by kernel_rfl) (fun _ _ _ h => h) (Or.inl ⟨by kernel_rfl, ?hy13⟩) (by assumption) ?_
                case hy13 => (intro w9 hS9; (try dsimp only at hS9); go_simp; (try with_reducible rfl))
                try simp only [Act.put, List.getElem_toArray, List.getElem_cons_succ, List.getElem_cons_zero, List.setIfInBounds_toArray, List.set_cons_zero, List.set_cons_succ]
                refine wpAnyH_take (i := 6) (v := ?v14) rfl (by kernel_rfl) (by kernel_rfl) (by kernel_rfl) (fun _ _ _ h => h) (Or.inl ⟨by kernel_rfl, ?hy14⟩) (by assumption) ?_
                case hy14 => (intro w9 hS9; (try dsimp only at hS9); go_simp; (try with_reducible rfl))
                try simp only [Act.put, List.getElem_toArray, List.getElem_cons_succ, List.getElem_cons_zero, List.setIfInBounds_toArray, List.set_cons_zero, List.set_cons_succ]
                refine wpAnyH_take (i := 7) (v := ?v15) rfl (by kernel_rfl) (by kernel_rfl) (by kernel_rfl) (fun _ _ _ h => h) (Or.inl ⟨by kernel_rfl, ?hy15⟩) (by assumption) ?_
                case hy15 => (intro w9 hS9; (try dsimp only at hS9); go_simp; (try with_reducible rfl))
                try simp only [Act.put, List.getElem_toArray, List.getElem_cons_succ, List.getElem_cons_zero, List.setIfInBounds_toArray, List.set_cons_zero, List.set_cons_succ]
                refine wpAnyH_ready (rs := [1, 8]) (by kernel_rfl) (by simp) ?_
                refine AllReadyH.cons rfl (fun K9 hK9 => ?_) (AllReadyH.cons rfl (fun K9 hK9 => ?_) (AllReadyH.nil))
                · rw [if_pos (by rfl)]
                  go_simp
                  refine hK9.out _ _ ((by assumption)) (fun hHeld2 => ?_)
                  clear hK9 K9
                  try simp only [Act.put, List.getElem_toArray, List.getElem_cons_succ, List.getElem_cons_zero, List.setIfInBounds_toArray, List.set_cons_zero, List.set_cons_succ]
                  refine wpAnyH_ready (rs := [8]) (by kernel_rfl) (by simp) ?_
                  refine AllReadyH.cons rfl (fun K9 hK9 => ?_) AllReadyH.nil
                  rw [if_pos (by rfl)]
                  go_wp2_with (go_at_call 35; refine (pick_any g bs kr us.length _ _ (HSr.out.below (below_drewN (Below.refl _ _) 1)) (by omega) rfl (by omega)).mono ?_; rintro e w9 ⟨p9, k9, rfl, hp9, hk9, hs9, hkk9⟩)
                  have hkk9 : Kept g (g + 1) wr w9 := (Kept.of_below (below_drewN (Below.refl _ _) 1)).trans hkk9
                  have hz9 := hkk9.size
                  have hp9 : p9 < us.length := by omega
                  have hp9I : (p9 : Int) < (us.length : Int) := by omega
                  have HE9 := Lib.hid (HEr.out.kept hkk9)
                  have HS9 := Lib.hid hs9
                  obtain ⟨b4, o4, e4, h1, h2, h3, h4⟩ := HU8.out p9 hp9
                  cases e4
                  obtain ⟨t, ht⟩ : ∃ t, t = us[p9] := ⟨_, rfl⟩
                  rw [← ht] at h3 h4
                  have hcs : w9.cell? ⟨b3, o3 + p9, none⟩ = some (.string t) := cell_kept hkk9 (HKr.out.cell (by omega) (by omega) (by omega) h3) (.inr (by show g + 1 ≤ b3; omega))
                  have hcx9 : w9.cell? ⟨xb, 1, none⟩ = some (.slice (some ⟨b3, o3, none⟩) us.length c3) := cell_kept hkk9 hcx (.inr (by show g + 1 ≤ xb; omega))
                  have HK9 := Lib.hid (HKr.out.trans (KeepQ.of_kept hkk9 (by omega)))
                  have hcd9 := (src_cell (i := 1) (v := (.slice a9 L.length c9)) HE9.out.der rfl).1
                  clear h3 ht
                  refine hK9.out _ _ (hcx9) (fun hHeld3 => ?_)
                  clear hK9 K9
                  try simp only [Act.put, List.getElem_toArray, List.getElem_cons_succ, List.getElem_cons_zero, List.setIfInBounds_toArray, List.set_cons_zero, List.set_cons_succ]
                  refine wpAnyH_take (i := 9) (v := ?v16) rfl (by kernel_rfl) (by kernel_rfl) (by kernel_rfl) (fun _ _ _ h => h) (Or.inl ⟨by kernel_rfl, ?hy16⟩) (by assumption) ?_
                  case hy16 => (intro w9 hS9; (try dsimp only at hS9); go_simp; (try with_reducible rfl))
                  try simp only [Act.put, List.getElem_toArray, List.getElem_cons_succ, List.getElem_cons_zero, List.setIfInBounds_toArray, List.set_cons_zero, List.set_cons_succ]
                  refine wpAnyH_ready (rs := [10]) (by kernel_rfl) (by simp) ?_
                  refine AllReadyH.cons rfl (fun K9 hK9 => ?_) AllReadyH.nil
                  rw [if_pos (by rfl)]
                  go_simp
                  refine hK9.out _ _ ((by assumption)) (fun hHeld4 => ?_)
                  clear hK9 K9
                  try simp only [Act.put, List.getElem_toArray, List.getElem_cons_succ, List.getElem_cons_zero, List.setIfInBounds_toArray, List.set_cons_zero, List.set_cons_succ]
                  refine wpAnyH_ready (rs := [11]) (by kernel_rfl) (by simp) ?_
                  refine AllReadyH.cons rfl (fun K9 hK9 => ?_) AllReadyH.nil
                  rw [if_pos (by rfl)]
                  have hcd9a := cell_allocQ (.cells #[.string t] 9) hcd9
                  go_simp
                  refine hK9.out _ _ (cell_allocQ _ hcx9) (fun hHeld5 => ?_)
                  clear hK9 K9
                  try simp only [Act.put, List.getElem_toArray, List.getElem_cons_succ, List.getElem_cons_zero, List.setIfInBounds_toArray, List.set_cons_zero, List.set_cons_succ]
                  refine wpAnyH_ready (rs := [12]) (by kernel_rfl) (by simp) ?_
                  refine AllReadyH.cons rfl (fun K9 hK9 => ?_) AllReadyH.nil
                  have hal := one_belowQ w9 (.cells #[.string t] 9)
                  have hzl := hal.size
                  have HEl := Lib.hid (HE9.out.under hal)
                  refine step_strQ ?_ (.tmp 48) (.tmp 58) ?_ (xb + 1) (.slice a9 L.length c9) L HEl.out.own (by omega) (by omega) t w9.heap.size ?_ ?_ (heap_alloc_new w9 _) ?_; rfl; rfl; rfl; rfl
                  intro gn cap wA howA hgrA hlocA
                  have hgrA : (w9.alloc (.cells #[.string t] 9)).grownBy wA (Value.slice a9 L.length c9).ownBlock := hgrA
                  obtain ⟨⟨cA, fA⟩, heA, hkA⟩ := HEl.out.push (by omega) hgrA howA (fun y hy => (List.mem_append.1 hy).elim (fun h => HEl.out.hl y h) (fun h => by rw [List.mem_singleton.1 h]; exact h4))
                  have hcxA : wA.cell? ⟨xb, 1, none⟩ = some (.slice (some ⟨b3, o3, none⟩) us.length c3) := cell_blockQ (hgrA.block xb (by omega) (fun e => by have := (World.ownsRow.lt HEl.out.own _ e.symm).1; omega)) (cell_allocQ _ hcx9)
                  refine hK9.out _ _ (hcxA) (fun hHeld6 => ?_)
                  clear hK9 K9
                  try simp only [Act.put, List.getElem_toArray, List.getElem_cons_succ, List.getElem_cons_zero, List.setIfInBounds_toArray, List.set_cons_zero, List.set_cons_succ]
                  refine wpAnyH_take (i := 13) (v := ?v17) rfl (by kernel_rfl) (by kernel_rfl) (by kernel_rfl) (fun _ _ _ h => h) (Or.inl ⟨by kernel_rfl, ?hy17⟩) (by assumption) ?_
                  case hy17 => (intro w9 hS9; (try dsimp only at hS9); go_simp; (try with_reducible rfl))
                  try simp only [Act.put, List.getElem_toArray, List.getElem_cons_succ, List.getElem_cons_zero, List.setIfInBounds_toArray, List.set_cons_zero, List.set_cons_succ]
                  refine wpAnyH_ready (rs := [14]) (by kernel_rfl) (by simp) ?_
                  refine AllReadyH.cons rfl (fun K9 hK9 => ?_) AllReadyH.nil
                  rw [if_pos (by rfl)]
                  go_simp
                  refine hK9.out _ _ (cell_setQ (by omega) hcxA) (fun hHeld7 => ?_)
                  clear hK9 K9
                  try simp only [Act.put, List.getElem_toArray, List.getElem_cons_succ, List.getElem_cons_zero, List.setIfInBounds_toArray, List.set_cons_zero, List.set_cons_succ]
                  refine wpAnyH_done (by kernel_rfl) ?_ _
                  have hln : (L ++ [t]).length = L.length + 1 := by simp
                  have HEA : Hid (EndW w (wA.setCell ⟨gb + 1, 1, none⟩ (.slice (some ⟨gn, 0, none⟩) (L.length + 1) cap)) (xb + 1) g gb (gb + 1) (.slice a1 x.affixes.length c1) (.slice (some ⟨b2, o2, none⟩) x.stems.length c2) wd (.slice (some ⟨gn, 0, none⟩) (L ++ [t]).length cap) (L ++ [t])) := Lib.hid (by rw [hln]; exact heA)
                  have HSA := Lib.hid ((HS9.out.below hal).low (hkA.low (by omega) (by omega)))
                  have HKA := Lib.hid ((HK9.out.trans (KeepQ.of_below hal (by omega))).trans hkA.weak)
                  have Hln := Lib.hid hln
                  clear heA hkA howA hgrA hlocA cA fA hcxA hln hHeld7
                  go_wp2
                  go_roundw
                  case rel => exact ⟨n - 1, k9, some ⟨gn, 0, none⟩, cap, L ++ [t], by rw [show ((n - 1 : Nat) : Int) = (n : Int) - 1 by omega], by rw [Hln.out]; omega, by omega, HSA, HEA, HKA⟩
                  case measure => simp [intOf]; omega
                · rw [if_pos (by rfl)]
                  go_wp2_with (go_at_call 35; refine (pick_any g bs kr us.length _ _ (HSr.out.below (below_drewN (Below.refl _ _) 1)) (by omega) rfl (by omega)).mono ?_; rintro e w9 ⟨p9, k9, rfl, hp9, hk9, hs9, hkk9⟩)
                  have hkk9 : Kept g (g + 1) wr w9 := (Kept.of_below (below_drewN (Below.refl _ _) 1)).trans hkk9
                  have hz9 := hkk9.size
                  have hp9 : p9 < us.length := by omega
                  have hp9I : (p9 : Int) < (us.length : Int) := by omega
                  have HE9 := Lib.hid (HEr.out.kept hkk9)
                  have HS9 := Lib.hid hs9
                  obtain ⟨b4, o4, e4, h1, h2, h3, h4⟩ := HU8.out p9 hp9
                  cases e4
                  obtain ⟨t, ht⟩ : ∃ t, t = us[p9] := ⟨_, rfl⟩
                  rw [← ht] at h3 h4
                  have hcs : w9.cell? ⟨b3, o3 + p9, none⟩ = some (.string t) := cell_kept hkk9 (HKr.out.cell (by omega) (by omega) (by omega) h3) (.inr (by show g + 1 ≤ b3; omega))
                  have hcx9 : w9.cell? ⟨xb, 1, none⟩ = some (.slice (some ⟨b3, o3, none⟩) us.length c3) := cell_kept hkk9 hcx (.inr (by show g + 1 ≤ xb; omega))
                  have HK9 := Lib.hid (HKr.out.trans (KeepQ.of_kept hkk9 (by omega)))
                  have hcd9 := (src_cell (i := 1) (v := (.slice a9 L.length c9)) HE9.out.der rfl).1
                  clear h3 ht
                  refine hK9.out _ _ (hcx9) (fun hHeld2 => ?_)
                  clear hK9 K9
                  try simp only [Act.put, List.getElem_toArray, List.getElem_cons_succ, List.getElem_cons_zero, List.setIfInBounds_toArray, List.set_cons_zero, List.set_cons_succ]
                  refine wpAnyH_take (i := 9) (v := ?v18) rfl (by kernel_rfl) (by kernel_rfl) (by kernel_rfl) (fun _ _ _ h => h) (Or.inl ⟨by kernel_rfl, ?hy18⟩) (by assumption) ?_
                  case hy18 => (intro w9 hS9; (try dsimp only at hS9); go_simp; (try with_reducible rfl))
                  try simp only [Act.put, List.getElem_toArray, List.getElem_cons_succ, List.getElem_cons_zero, List.setIfInBounds_toArray, List.set_cons_zero, List.set_cons_succ]
                  refine wpAnyH_ready (rs := [1, 10]) (by kernel_rfl) (by simp) ?_
                  refine AllReadyH.cons rfl (fun K9 hK9 => ?_) (AllReadyH.cons rfl (fun K9 hK9 => ?_) (AllReadyH.nil))
                  · rw [if_pos (by rfl)]
                    go_simp
                    refine hK9.out _ _ ((by assumption)) (fun hHeld3 => ?_)
                    clear hK9 K9
                    try simp only [Act.put, List.getElem_toArray, List.getElem_cons_succ, List.getElem_cons_zero, List.setIfInBounds_toArray, List.set_cons_zero, List.set_cons_succ]
                    refine wpAnyH_ready (rs := [10]) (by kernel_rfl) (by simp) ?_
                    refine AllReadyH.cons rfl (fun K9 hK9 => ?_) AllReadyH.nil
                    rw [if_pos (by rfl)]
                    go_simp
                    refine hK9.out _ _ ((by assumption)) (fun hHeld4 => ?_)
                    clear hK9 K9
                    try simp only [Act.put, List.getElem_toArray, List.getElem_cons_succ, List.getElem_cons_zero, List.setIfInBounds_toArray, List.set_cons_zero, List.set_cons_succ]
                    refine wpAnyH_ready (rs := [11]) (by kernel_rfl) (by simp) ?_
                    refine AllReadyH.cons rfl (fun K9 hK9 => ?_) AllReadyH.nil
                    rw [if_pos (by rfl)]
                    have hcd9a := cell_allocQ (.cells #[.string t] 9) hcd9
                    go_simp
                    refine hK9.out _ _ (cell_allocQ _ hcx9) (fun hHeld5 => ?_)
                    clear hK9 K9
                    try simp only [Act.put, List.getElem_toArray, List.getElem_cons_succ, List.getElem_cons_zero, List.setIfInBounds_toArray, List.set_cons_zero, List.set_cons_succ]
                    refine wpAnyH_ready (rs := [12]) (by kernel_rfl) (by simp) ?_
                    refine AllReadyH.cons rfl (fun K9 hK9 => ?_) AllReadyH.nil
                    have hal := one_belowQ w9 (.cells #[.string t] 9)
                    have hzl := hal.size
                    have HEl := Lib.hid (HE9.out.under hal)
                    refine step_strQ ?_ (.tmp 48) (.tmp 58) ?_ (xb + 1) (.slice a9 L.length c9) L HEl.out.own (by omega) (by omega) t w9.heap.size ?_ ?_ (heap_alloc_new w9 _) ?_; rfl; rfl; rfl; rfl
                    intro gn cap wA howA hgrA hlocA
                    have hgrA : (w9.alloc (.cells #[.string t] 9)).grownBy wA (Value.slice a9 L.length c9).ownBlock := hgrA
                    obtain ⟨⟨cA, fA⟩, heA, hkA⟩ := HEl.out.push (by omega) hgrA howA (fun y hy => (List.mem_append.1 hy).elim (fun h => HEl.out.hl y h) (fun h => by rw [List.mem_singleton.1 h]; exact h4))
                    have hcxA : wA.cell? ⟨xb, 1, none⟩ = some (.slice (some ⟨b3, o3, none⟩) us.length c3) := cell_blockQ (hgrA.block xb (by omega) (fun e => by have := (World.ownsRow.lt HEl.out.own _ e.symm).1; omega)) (cell_allocQ _ hcx9)
                    refine hK9.out _ _ (hcxA) (fun hHeld6 => ?_)
                    clear hK9 K9
                    try simp only [Act.put, List.getElem_toArray, List.getElem_cons_succ, List.getElem_cons_zero, List.setIfInBounds_toArray, List.set_cons_zero, List.set_cons_succ]
                    refine wpAnyH_take (i := 13) (v := ?v19) rfl (by kernel_rfl) (by kernel_rfl) (by kernel_rfl) (fun _ _ _ h => h) (Or.inl ⟨by kernel_rfl, ?hy19⟩) (by assumption) ?_
                    case hy19 => (intro w9 hS9; (try dsimp only at hS9); go_simp; (try with_reducible rfl))
                    try simp only [Act.put, List.getElem_toArray, List.getElem_cons_succ, List.getElem_cons_zero, List.setIfInBounds_toArray, List.set_cons_zero, List.set_cons_succ]
                    refine wpAnyH_ready (rs := [14]) (by kernel_rfl) (by simp) ?_
                    refine AllReadyH.cons rfl (fun K9 hK9 => ?_) AllReadyH.nil
                    rw [if_pos (by rfl)]
                    go_simp
                    refine hK9.out _ _ (cell_setQ (by omega) hcxA) (fun hHeld7 => ?_)
                    clear hK9 K9
                    try simp only [Act.put, List.getElem_toArray, List.getElem_cons_succ, List.getElem_cons_zero, List.setIfInBounds_toArray, List.set_cons_zero, List.set_cons_succ]
                    refine wpAnyH_done (by kernel_rfl) ?_ _
                    have hln : (L ++ [t]).length = L.length + 1 := by simp
                    have HEA : Hid (EndW w (wA.setCell ⟨gb + 1, 1, none⟩ (.slice (some ⟨gn, 0, none⟩) (L.length + 1) cap)) (xb + 1) g gb (gb + 1) (.slice a1 x.affixes.length c1) (.slice (some ⟨b2, o2, none⟩) x.stems.length c2) wd (.slice (some ⟨gn, 0, none⟩) (L ++ [t]).length cap) (L ++ [t])) := Lib.hid (by rw [hln]; exact heA)
                    have HSA := Lib.hid ((HS9.out.below hal).low (hkA.low (by omega) (by omega)))
                    have HKA := Lib.hid ((HK9.out.trans (KeepQ.of_below hal (by omega))).trans hkA.weak)
                    have Hln := Lib.hid hln
                    clear heA hkA howA hgrA hlocA cA fA hcxA hln hHeld7
                    go_wp2
                    go_roundw
                    case rel => exact ⟨n - 1, k9, some ⟨gn, 0, none⟩, cap, L ++ [t], by rw [show ((n - 1 : Nat) : Int) = (n : Int) - 1 by omega], by rw [Hln.out]; omega, by omega, HSA, HEA, HKA⟩
                    case measure => simp [intOf]; omega
                  · rw [if_pos (by rfl)]
                    go_simp
                    refine hK9.out _ _ ((by assumption)) (fun hHeld3 => ?_)
                    clear hK9 K9
                    try simp only [Act.put, List.getElem_toArray, List.getElem_cons_succ, List.getElem_cons_zero, List.setIfInBounds_toArray, List.set_cons_zero, List.set_cons_succ]
                    refine wpAnyH_ready (rs := [1, 11]) (by kernel_rfl) (by simp) ?_
                    refine AllReadyH.cons rfl (fun K9 hK9 => ?_) (AllReadyH.cons rfl (fun K9 hK9 => ?_) (AllReadyH.nil))
                    · rw [if_pos (by rfl)]
                      go_simp
                      refine hK9.out _ _ ((by assumption)) (fun hHeld4 => ?_)
                      clear hK9 K9
                      try simp only [Act.put, List.getElem_toArray, List.getElem_cons_succ, List.getElem_cons_zero, List.setIfInBounds_toArray, List.set_cons_zero, List.set_cons_succ]
                      refine wpAnyH_ready (rs := [11]) (by kernel_rfl) (by simp) ?_
                      refine AllReadyH.cons rfl (fun K9 hK9 => ?_) AllReadyH.nil
                      rw [if_pos (by rfl)]
                      have hcd9a := cell_allocQ (.cells #[.string t] 9) hcd9
                      go_simp
                      refine hK9.out _ _ (cell_allocQ _ hcx9) (fun hHeld5 => ?_)
                      clear hK9 K9
                      try simp only [Act.put, List.getElem_toArray, List.getElem_cons_succ, List.getElem_cons_zero, List.setIfInBounds_toArray, List.set_cons_zero, List.set_cons_succ]
                      refine wpAnyH_ready (rs := [12]) (by kernel_rfl) (by simp) ?_
                      refine AllReadyH.cons rfl (fun K9 hK9 => ?_) AllReadyH.nil
                      have hal := one_belowQ w9 (.cells #[.string t] 9)
                      have hzl := hal.size
                      have HEl := Lib.hid (HE9.out.under hal)
                      refine step_strQ ?_ (.tmp 48) (.tmp 58) ?_ (xb + 1) (.slice a9 L.length c9) L HEl.out.own (by omega) (by omega) t w9.heap.size ?_ ?_ (heap_alloc_new w9 _) ?_; rfl; rfl; rfl; rfl
                      intro gn cap wA howA hgrA hlocA
                      have hgrA : (w9.alloc (.cells #[.string t] 9)).grownBy wA (Value.slice a9 L.length c9).ownBlock := hgrA
                      obtain ⟨⟨cA, fA⟩, heA, hkA⟩ := HEl.out.push (by omega) hgrA howA (fun y hy => (List.mem_append.1 hy).elim (fun h => HEl.out.hl y h) (fun h => by rw [List.mem_singleton.1 h]; exact h4))
                      have hcxA : wA.cell? ⟨xb, 1, none⟩ = some (.slice (some ⟨b3, o3, none⟩) us.length c3) := cell_blockQ (hgrA.block xb (by omega) (fun e => by have := (World.ownsRow.lt HEl.out.own _ e.symm).1; omega)) (cell_allocQ _ hcx9)
                      refine hK9.out _ _ (hcxA) (fun hHeld6 => ?_)
                      clear hK9 K9
                      try simp only [Act.put, List.getElem_toArray, List.getElem_cons_succ, List.getElem_cons_zero, List.setIfInBounds_toArray, List.set_cons_zero, List.set_cons_succ]
                      refine wpAnyH_take (i := 13) (v := ?v20) rfl (by kernel_rfl) (by kernel_rfl) (by kernel_rfl) (fun _ _ _ h => h) (Or.inl ⟨by kernel_rfl, ?hy20⟩) (by assumption) ?_
                      case hy20 => (intro w9 hS9; (try dsimp only at hS9); go_simp; (try with_reducible rfl))
                      try simp only [Act.put, List.getElem_toArray, List.getElem_cons_succ, List.getElem_cons_zero, List.setIfInBounds_toArray, List.set_cons_zero, List.set_cons_succ]
                      refine wpAnyH_ready (rs := [14]) (by kernel_rfl) (by simp) ?_
                      refine AllReadyH.cons rfl (fun K9 hK9 => ?_) AllReadyH.nil
                      rw [if_pos (by rfl)]
                      go_simp
                      refine hK9.out _ _ (cell_setQ (by omega) hcxA) (fun hHeld7 => ?_)
                      clear hK9 K9
                      try simp only [Act.put, List.getElem_toArray, List.getElem_cons_succ, List.getElem_cons_zero, List.setIfInBounds_toArray, List.set_cons_zero, List.set_cons_succ]
                      refine wpAnyH_done (by kernel_rfl) ?_ _
                      have hln : (L ++ [t]).length = L.length + 1 := by simp
                      have HEA : Hid (EndW w (wA.setCell ⟨gb + 1, 1, none⟩ (.slice (some ⟨gn, 0, none⟩) (L.length + 1) cap)) (xb + 1) g gb (gb + 1) (.slice a1 x.affixes.length c1) (.slice (some ⟨b2, o2, none⟩) x.stems.length c2) wd (.slice (some ⟨gn, 0, none⟩) (L ++ [t]).length cap) (L ++ [t])) := Lib.hid (by rw [hln]; exact heA)
                      have HSA := Lib.hid ((HS9.out.below hal).low (hkA.low (by omega) (by omega)))
                      have HKA := Lib.hid ((HK9.out.trans (KeepQ.of_below hal (by omega))).trans hkA.weak)
                      have Hln := Lib.hid hln
                      clear heA hkA howA hgrA hlocA cA fA hcxA hln hHeld7
                      go_wp2
                      go_roundw
                      case rel => exact ⟨n - 1, k9, some ⟨gn, 0, none⟩, cap, L ++ [t], by rw [show ((n - 1 : Nat) : Int) = (n : Int) - 1 by omega], by rw [Hln.out]; omega, by omega, HSA, HEA, HKA⟩
                      case measure => simp [intOf]; omega
                    · rw [if_pos (by rfl)]
                      have hcd9a := cell_allocQ (.cells #[.string t] 9) hcd9
                      go_simp
                      refine hK9.out _ _ (cell_allocQ _ hcx9) (fun hHeld4 => ?_)
                      clear hK9 K9
                      try simp only [Act.put, List.getElem_toArray, List.getElem_cons_succ, List.getElem_cons_zero, List.setIfInBounds_toArray, List.set_cons_zero, List.set_cons_succ]
                      refine wpAnyH_ready (rs := [1]) (by kernel_rfl) (by simp) ?_
                      refine AllReadyH.cons rfl (fun K9 hK9 => ?_) AllReadyH.nil
                      rw [if_pos (by rfl)]
                      go_simp
                      refine hK9.out _ _ ((by assumption)) (fun hHeld5 => ?_)
                      clear hK9 K9
                      try simp only [Act.put, List.getElem_toArray, List.getElem_cons_succ, List.getElem_cons_zero, List.setIfInBounds_toArray, List.set_cons_zero, List.set_cons_succ]
                      refine wpAnyH_ready (rs := [12]) (by kernel_rfl) (by simp) ?_
                      refine AllReadyH.cons rfl (fun K9 hK9 => ?_) AllReadyH.nil
                      have hal := one_belowQ w9 (.cells #[.string t] 9)
                      have hzl := hal.size
                      have HEl := Lib.hid (HE9.out.under hal)
                      refine step_strQ ?_ (.tmp 48) (.tmp 58) ?_ (xb + 1) (.slice a9 L.length c9) L HEl.out.own (by omega) (by omega) t w9.heap.size ?_ ?_ (heap_alloc_new w9 _) ?_; rfl; rfl; rfl; rfl
                      intro gn cap wA howA hgrA hlocA
                      have hgrA : (w9.alloc (.cells #[.string t] 9)).grownBy wA (Value.slice a9 L.length c9).ownBlock := hgrA
                      obtain ⟨⟨cA, fA⟩, heA, hkA⟩ := HEl.out.push (by omega) hgrA howA (fun y hy => (List.mem_append.1 hy).elim (fun h => HEl.out.hl y h) (fun h => by rw [List.mem_singleton.1 h]; exact h4))
                      have hcxA : wA.cell? ⟨xb, 1, none⟩ = some (.slice (some ⟨b3, o3, none⟩) us.length c3) := cell_blockQ (hgrA.block xb (by omega) (fun e => by have := (World.ownsRow.lt HEl.out.own _ e.symm).1; omega)) (cell_allocQ _ hcx9)
                      refine hK9.out _ _ (hcxA) (fun hHeld6 => ?_)
                      clear hK9 K9
                      try simp only [Act.put, List.getElem_toArray, List.getElem_cons_succ, List.getElem_cons_zero, List.setIfInBounds_toArray, List.set_cons_zero, List.set_cons_succ]
                      refine wpAnyH_take (i := 13) (v := ?v21) rfl (by kernel_rfl) (by kernel_rfl) (by kernel_rfl) (fun _ _ _ h => h) (Or.inl ⟨by kernel_rfl, ?hy21⟩) (by assumption) ?_
                      case hy21 => (intro w9 hS9; (try dsimp only at hS9); go_simp; (try with_reducible rfl))
                      try simp only [Act.put, List.getElem_toArray, List.getElem_cons_succ, List.getElem_cons_zero, List.setIfInBounds_toArray, List.set_cons_zero, List.set_cons_succ]
                      refine wpAnyH_ready (rs := [14]) (by kernel_rfl) (by simp) ?_
                      refine AllReadyH.cons rfl (fun K9 hK9 => ?_) AllReadyH.nil
                      rw [if_pos (by rfl)]
                      go_simp
                      refine hK9.out _ _ (cell_setQ (by omega) hcxA) (fun hHeld7 => ?_)
                      clear hK9 K9
                      try simp only [Act.put, List.getElem_toArray, List.getElem_cons_succ, List.getElem_cons_zero, List.setIfInBounds_toArray, List.set_cons_zero, List.set_cons_succ]
                      refine wpAnyH_done (by kernel_rfl) ?_ _
                      have hln : (L ++ [t]).length = L.length + 1 := by simp
                      have HEA : Hid (EndW w (wA.setCell ⟨gb + 1, 1, none⟩ (.slice (some ⟨gn, 0, none⟩) (L.length + 1) cap)) (xb + 1) g gb (gb + 1) (.slice a1 x.affixes.length c1) (.slice (some ⟨b2, o2, none⟩) x.stems.length c2) wd (.slice (some ⟨gn, 0, none⟩) (L ++ [t]).length cap) (L ++ [t])) := Lib.hid (by rw [hln]; exact heA)
                      have HSA := Lib.hid ((HS9.out.below hal).low (hkA.low (by omega) (by omega)))
                      have HKA := Lib.hid ((HK9.out.trans (KeepQ.of_below hal (by omega))).trans hkA.weak)
                      have Hln := Lib.hid hln
                      clear heA hkA howA hgrA hlocA cA fA hcxA hln hHeld7
                      go_wp2
                      go_roundw
                      case rel => exact ⟨n - 1, k9, some ⟨gn, 0, none⟩, cap, L ++ [t], by rw [show ((n - 1 : Nat) : Int) = (n : Int) - 1 by omega], by rw [Hln.out]; omega, by omega, HSA, HEA, HKA⟩
                      case measure => simp [intOf]; omega
              · have huI : ¬ ((0 : Int) < (us.length : Int)) := by omega
                go_wp2_with fail
                go_meet
                exact ⟨rfl, xb + 1, wd, a9, c9, L, kr, HEr.out, by omega, by omega, by omega, HSr.out⟩
            · have hnI : ¬ ((0 : Int) < (n : Int)) := by omega
              go_wp2_with fail
              go_meet
              exact ⟨rfl, xb + 1, wd, a9, c9, L, kr, HEr.out, by omega, by omega, by omega, HSr.out⟩
    case rest =>
      obtain ⟨rfl, Bq, sd, a9, c9, l9, k6, he6, hz6, hl9, hk6, hs6⟩ := hcut
      have HE6 := Lib.hid he6
      have HS6 := Lib.hid hs6
      clear he6 hs6 HE5 HX5 HS5 HP
      obtain ⟨w6, hw6⟩ : ∃ z, z = wc := ⟨_, rfl⟩
      subst hw6
      go_wp2_with fail
      refine (one_any g bs k6 12 _ _ HS6.out (by omega) rfl (by omega)).mono ?_
      rintro e w7 ⟨b7, k7, rfl, hk7, hs7, hkk7⟩
      have hz7 := hkk7.size
      have HE7 := Lib.hid (HE6.out.kept hkk7)
      have HS7 := Lib.hid hs7
      clear hs7 hkk7
      go_upto_if 62 with fail
      go_cut [4] (fun s4 wz => s4 = .pointer (some ⟨g, 0, none⟩) ∧ WoAt w wz g gb (.slice a1 x.affixes.length c1) (.slice a2 x.stems.length c2) bs 20000)
      case first =>
        cases b7
        · go_wp2_with fail
          go_meet
          exact ⟨rfl, Bq, sd, a9, c9, l9, k7, HE7.out, by omega, by omega, by omega, HS7.out⟩
        · obtain ⟨dd, df⟩ := src_cell (i := 1) (v := (.slice a9 l9.length c9)) HE7.out.der rfl
          have ddd : w7.drew.cell? ⟨gb + 1, 1, none⟩ = some (.slice a9 l9.length c9) := dd
          have hbL : Below w7.heap.size w7 (w7.drew.alloc (.cells (([⟨#[122, 122]⟩, ⟨#[112, 108, 117, 114, 97, 108]⟩, ⟨#[101, 114]⟩] : List ByteArray).map Value.string).toArray 9)) := (Below.refl w7.heap.size w7).drew.trans (one_belowQ w7.drew (.cells (([⟨#[122, 122]⟩, ⟨#[112, 108, 117, 114, 97, 108]⟩, ⟨#[101, 114]⟩] : List ByteArray).map Value.string).toArray 9))
          have hstL := strs_built w7.drew ([⟨#[122, 122]⟩, ⟨#[112, 108, 117, 114, 97, 108]⟩, ⟨#[101, 114]⟩] : List ByteArray) (by decide)
          have hq7 := HE7.out.oq
          have hl9s : l9.length ≤ 400 := by omega
          go_upto_region 12 with fail
          refine wp_region_held_drew (S := (fun _ => True)) (by kernel_rfl) ?_ (fun hHeld => ?_)
          · trivial
          refine wpAnyH_take (i := 0) (v := ?v22) rfl (by kernel_rfl) (by kernel_rfl) (by kernel_rfl) (fun _ _ _ h => h) (Or.inl ⟨by kernel_rfl, ?hy22⟩) (by assumption) ?_
          case hy22 => (intro w9 hS9; (try dsimp only at hS9); go_simp; (try with_reducible rfl))
          try simp only [Act.put, List.getElem_toArray, List.getElem_cons_succ, List.getElem_cons_zero, List.setIfInBounds_toArray, List.set_cons_zero, List.set_cons_succ]
          refine wpAnyH_take (i := 2) (v := ?v23) rfl (by kernel_rfl) (by kernel_rfl) (by kernel_rfl) (fun _ _ _ h => h) (Or.inl ⟨by kernel_rfl, ?hy23⟩) (by assumption) ?_
          case hy23 => (intro w9 hS9; (try dsimp only at hS9); go_simp; (try with_reducible rfl))
          try simp only [Act.put, List.getElem_toArray, List.getElem_cons_succ, List.getElem_cons_zero, List.setIfInBounds_toArray, List.set_cons_zero, List.set_cons_succ]
          refine wpAnyH_ready (rs := [1, 3]) (by kernel_rfl) (by simp) ?_
          refine AllReadyH.cons rfl (fun K9 hK9 => ?_) (AllReadyH.cons rfl (fun K9 hK9 => ?_) (AllReadyH.nil))
          · rw [if_pos (by rfl)]
            go_simp
            refine hK9.out _ _ (trivial) (fun hHeld2 => ?_)
            clear hK9 K9
            try simp only [Act.put, List.getElem_toArray, List.getElem_cons_succ, List.getElem_cons_zero, List.setIfInBounds_toArray, List.set_cons_zero, List.set_cons_succ]
            refine wpAnyH_ready (rs := [3]) (by kernel_rfl) (by simp) ?_
            refine AllReadyH.cons rfl (fun K9 hK9 => ?_) AllReadyH.nil
            rw [if_pos (by rfl)]
            have d7a : (w7.alloc (.cells #[.string ⟨#[122, 122]⟩, .string ⟨#[112, 108, 117, 114, 97, 108]⟩, .string ⟨#[101, 114]⟩] 9)).cell? ⟨gb + 1, 1, none⟩ = some (.slice a9 l9.length c9) := cell_allocQ _ dd
            go_simp
            refine hK9.out _ _ (trivial) (fun hHeld3 => ?_)
            clear hK9 K9
            try simp only [Act.put, List.getElem_toArray, List.getElem_cons_succ, List.getElem_cons_zero, List.setIfInBounds_toArray, List.set_cons_zero, List.set_cons_succ]
            refine wpAnyH_ready (rs := [4]) (by kernel_rfl) (by simp) ?_
            refine AllReadyH.cons rfl (fun K9 hK9 => ?_) AllReadyH.nil
            rw [if_pos (by rfl)]
            go_wp2_with (go_at_call 36; refine (text_any g bs k7 _ ([⟨#[122, 122]⟩, ⟨#[112, 108, 117, 114, 97, 108]⟩, ⟨#[101, 114]⟩] : List ByteArray) _ (HS7.out.below hbL) (by omega) hstL (by decide) (by decide) (fun a n c e p hp => by cases e; cases hp; show w7.heap.size ≠ g; omega)).mono ?_; rintro e w9 ⟨t, k9, rfl, htm, hk9, hs9, hkk9⟩)
            have hkk9 : Kept g (g + 1) w7 w9 := (Kept.of_below hbL).trans hkk9
            have hz9 := hkk9.size
            have ht12 : t.size ≤ 12 := (by decide : ∀ s ∈ ([⟨#[122, 122]⟩, ⟨#[112, 108, 117, 114, 97, 108]⟩, ⟨#[101, 114]⟩] : List ByteArray), s.size ≤ 12) t htm
            have HE9 := Lib.hid (HE7.out.kept hkk9)
            have HS9 := Lib.hid hs9
            have c9d := (src_cell (i := 1) (v := (.slice a9 l9.length c9)) HE9.out.der rfl).1
            refine hK9.out _ _ (trivial) (fun hHeld4 => ?_)
            clear hK9 K9
            try simp only [Act.put, List.getElem_toArray, List.getElem_cons_succ, List.getElem_cons_zero, List.setIfInBounds_toArray, List.set_cons_zero, List.set_cons_succ]
            refine wpAnyH_ready (rs := [5]) (by kernel_rfl) (by simp) ?_
            refine AllReadyH.cons rfl (fun K9 hK9 => ?_) AllReadyH.nil
            rw [if_pos (by rfl)]
            have c9a := cell_allocQ (.cells #[.string t] 9) c9d
            go_simp
            refine hK9.out _ _ (trivial) (fun hHeld5 => ?_)
            clear hK9 K9
            try simp only [Act.put, List.getElem_toArray, List.getElem_cons_succ, List.getElem_cons_zero, List.setIfInBounds_toArray, List.set_cons_zero, List.set_cons_succ]
            refine wpAnyH_ready (rs := [6]) (by kernel_rfl) (by simp) ?_
            refine AllReadyH.cons rfl (fun K9 hK9 => ?_) AllReadyH.nil
            have hal := one_belowQ w9 (.cells #[.string t] 9)
            have hzl := hal.size
            have HEl := Lib.hid (HE9.out.under hal)
            have hq12 := HE9.out.oq
            have hBq9 : Bq ≤ (w9.alloc (.cells #[.string t] 9)).heap.size := by omega
            refine step_strQ ?_ (.tmp 64) (.tmp 68) ?_ Bq (.slice a9 l9.length c9) l9 HEl.out.own hBq9 (by omega) t w9.heap.size ?_ ?_ (heap_alloc_new w9 _) ?_; rfl; rfl; rfl; rfl
            intro gn cap wA howA hgrA hlocA
            obtain ⟨⟨cA, fA⟩, heA, hkA⟩ := HEl.out.push hBq9 hgrA howA (fun y hy => (List.mem_append.1 hy).elim (fun h => HEl.out.hl y h) (fun h => by rw [List.mem_singleton.1 h]; exact max12 (by omega)))
            refine hK9.out _ _ (trivial) (fun hHeld6 => ?_)
            clear hK9 K9
            try simp only [Act.put, List.getElem_toArray, List.getElem_cons_succ, List.getElem_cons_zero, List.setIfInBounds_toArray, List.set_cons_zero, List.set_cons_succ]
            refine wpAnyH_take (i := 7) (v := ?v24) rfl (by kernel_rfl) (by kernel_rfl) (by kernel_rfl) (fun _ _ _ h => h) (Or.inl ⟨by kernel_rfl, ?hy24⟩) (by assumption) ?_
            case hy24 => (intro w9 hS9; (try dsimp only at hS9); go_simp; (try with_reducible rfl))
            try simp only [Act.put, List.getElem_toArray, List.getElem_cons_succ, List.getElem_cons_zero, List.setIfInBounds_toArray, List.set_cons_zero, List.set_cons_succ]
            refine wpAnyH_ready (rs := [8]) (by kernel_rfl) (by simp) ?_
            refine AllReadyH.cons rfl (fun K9 hK9 => ?_) AllReadyH.nil
            rw [if_pos (by rfl)]
            go_simp
            refine hK9.out _ _ (trivial) (fun hHeld7 => ?_)
            clear hK9 K9
            try simp only [Act.put, List.getElem_toArray, List.getElem_cons_succ, List.getElem_cons_zero, List.setIfInBounds_toArray, List.set_cons_zero, List.set_cons_succ]
            refine wpAnyH_done (by kernel_rfl) ?_ _
            have hln : (l9 ++ [t]).length = l9.length + 1 := by simp
            have HEA : EndW w (wA.setCell ⟨gb + 1, 1, none⟩ (.slice (some ⟨gn, 0, none⟩) (l9.length + 1) cap)) Bq g gb (gb + 1) (.slice a1 x.affixes.length c1) (.slice a2 x.stems.length c2) sd (.slice (some ⟨gn, 0, none⟩) (l9 ++ [t]).length cap) (l9 ++ [t]) := by rw [hln]; exact heA
            have HSA := (HS9.out.below hal).low (hkA.low (by omega) (by omega))
            have hzA2 := hkA.size
            go_wp2_with fail
            go_meet
            exact ⟨rfl, Bq, sd, some ⟨gn, 0, none⟩, cap, l9 ++ [t], k9, HEA, by omega, by rw [hln]; omega, by omega, HSA⟩
          · rw [if_pos (by rfl)]
            have d7a : (w7.alloc (.cells #[.string ⟨#[122, 122]⟩, .string ⟨#[112, 108, 117, 114, 97, 108]⟩, .string ⟨#[101, 114]⟩] 9)).cell? ⟨gb + 1, 1, none⟩ = some (.slice a9 l9.length c9) := cell_allocQ _ dd
            go_simp
            refine hK9.out _ _ (trivial) (fun hHeld2 => ?_)
            clear hK9 K9
            try simp only [Act.put, List.getElem_toArray, List.getElem_cons_succ, List.getElem_cons_zero, List.setIfInBounds_toArray, List.set_cons_zero, List.set_cons_succ]
            refine wpAnyH_ready (rs := [1, 4]) (by kernel_rfl) (by simp) ?_
            refine AllReadyH.cons rfl (fun K9 hK9 => ?_) (AllReadyH.cons rfl (fun K9 hK9 => ?_) (AllReadyH.nil))
            · rw [if_pos (by rfl)]
              go_simp
              refine hK9.out _ _ (trivial) (fun hHeld3 => ?_)
              clear hK9 K9
              try simp only [Act.put, List.getElem_toArray, List.getElem_cons_succ, List.getElem_cons_zero, List.setIfInBounds_toArray, List.set_cons_zero, List.set_cons_succ]
              refine wpAnyH_ready (rs := [4]) (by kernel_rfl) (by simp) ?_
              refine AllReadyH.cons rfl (fun K9 hK9 => ?_) AllReadyH.nil
              rw [if_pos (by rfl)]
              go_wp2_with (go_at_call 36; refine (text_any g bs k7 _ ([⟨#[122, 122]⟩, ⟨#[112, 108, 117, 114, 97, 108]⟩, ⟨#[101, 114]⟩] : List ByteArray) _ (HS7.out.below hbL) (by omega) hstL (by decide) (by decide) (fun a n c e p hp => by cases e; cases hp; show w7.heap.size ≠ g; omega)).mono ?_; rintro e w9 ⟨t, k9, rfl, htm, hk9, hs9, hkk9⟩)
              have hkk9 : Kept g (g + 1) w7 w9 := (Kept.of_below hbL).trans hkk9
              have hz9 := hkk9.size
              have ht12 : t.size ≤ 12 := (by decide : ∀ s ∈ ([⟨#[122, 122]⟩, ⟨#[112, 108, 117, 114, 97, 108]⟩, ⟨#[101, 114]⟩] : List ByteArray), s.size ≤ 12) t htm
              have HE9 := Lib.hid (HE7.out.kept hkk9)
              have HS9 := Lib.hid hs9
              have c9d := (src_cell (i := 1) (v := (.slice a9 l9.length c9)) HE9.out.der rfl).1
              refine hK9.out _ _ (trivial) (fun hHeld4 => ?_)
              clear hK9 K9
              try simp only [Act.put, List.getElem_toArray, List.getElem_cons_succ, List.getElem_cons_zero, List.setIfInBounds_toArray, List.set_cons_zero, List.set_cons_succ]
              refine wpAnyH_ready (rs := [5]) (by kernel_rfl) (by simp) ?_
              refine AllReadyH.cons rfl (fun K9 hK9 => ?_) AllReadyH.nil
              rw [if_pos (by rfl)]
              have c9a := cell_allocQ (.cells #[.string t] 9) c9d
              go_simp
              refine hK9.out _ _ (trivial) (fun hHeld5 => ?_)
              clear hK9 K9
              try simp only [Act.put, List.getElem_toArray, List.getElem_cons_succ, List.getElem_cons_zero, List.setIfInBounds_toArray, List.set_cons_zero, List.set_cons_succ]
              refine wpAnyH_ready (rs := [6]) (by kernel_rfl) (by simp) ?_
              refine AllReadyH.cons rfl (fun K9 hK9 => ?_) AllReadyH.nil
              have hal := one_belowQ w9 (.cells #[.string t] 9)
              have hzl := hal.size
              have HEl := Lib.hid (HE9.out.under hal)
              have hq12 := HE9.out.oq
              have hBq9 : Bq ≤ (w9.alloc (.cells #[.string t] 9)).heap.size := by omega
              refine step_strQ ?_ (.tmp 64) (.tmp 68) ?_ Bq (.slice a9 l9.length c9) l9 HEl.out.own hBq9 (by omega) t w9.heap.size ?_ ?_ (heap_alloc_new w9 _) ?_; rfl; rfl; rfl; rfl
              intro gn cap wA howA hgrA hlocA
              obtain ⟨⟨cA, fA⟩, heA, hkA⟩ := HEl.out.push hBq9 hgrA howA (fun y hy => (List.mem_append.1 hy).elim (fun h => HEl.out.hl y h) (fun h => by rw [List.mem_singleton.1 h]; exact max12 (by omega)))
              refine hK9.out _ _ (trivial) (fun hHeld6 => ?_)
              clear hK9 K9
              try simp only [Act.put, List.getElem_toArray, List.getElem_cons_succ, List.getElem_cons_zero, List.setIfInBounds_toArray, List.set_cons_zero, List.set_cons_succ]
              refine wpAnyH_take (i := 7) (v := ?v25) rfl (by kernel_rfl) (by kernel_rfl) (by kernel_rfl) (fun _ _ _ h => h) (Or.inl ⟨by kernel_rfl, ?hy25⟩) (by assumption) ?_
              case hy25 => (intro w9 hS9; (try dsimp only at hS9); go_simp; (try with_reducible rfl))
              try simp only [Act.put, List.getElem_toArray, List.getElem_cons_succ, List.getElem_cons_zero, List.setIfInBounds_toArray, List.set_cons_zero, List.set_cons_succ]
              refine wpAnyH_ready (rs := [8]) (by kernel_rfl) (by simp) ?_
              refine AllReadyH.cons rfl (fun K9 hK9 => ?_) AllReadyH.nil
              rw [if_pos (by rfl)]
              go_simp
              refine hK9.out _ _ (trivial) (fun hHeld7 => ?_)
              clear hK9 K9
              try simp only [Act.put, List.getElem_toArray, List.getElem_cons_succ, List.getElem_cons_zero, List.setIfInBounds_toArray, List.set_cons_zero, List.set_cons_succ]
              refine wpAnyH_done (by kernel_rfl) ?_ _
              have hln : (l9 ++ [t]).length = l9.length + 1 := by simp
              have HEA : EndW w (wA.setCell ⟨gb + 1, 1, none⟩ (.slice (some ⟨gn, 0, none⟩) (l9.length + 1) cap)) Bq g gb (gb + 1) (.slice a1 x.affixes.length c1) (.slice a2 x.stems.length c2) sd (.slice (some ⟨gn, 0, none⟩) (l9 ++ [t]).length cap) (l9 ++ [t]) := by rw [hln]; exact heA
              have HSA := (HS9.out.below hal).low (hkA.low (by omega) (by omega))
              have hzA2 := hkA.size
              go_wp2_with fail
              go_meet
              exact ⟨rfl, Bq, sd, some ⟨gn, 0, none⟩, cap, l9 ++ [t], k9, HEA, by omega, by rw [hln]; omega, by omega, HSA⟩
            · rw [if_pos (by rfl)]
              go_wp2_with (go_at_call 36; refine (text_any g bs k7 _ ([⟨#[122, 122]⟩, ⟨#[112, 108, 117, 114, 97, 108]⟩, ⟨#[101, 114]⟩] : List ByteArray) _ (HS7.out.below hbL) (by omega) hstL (by decide) (by decide) (fun a n c e p hp => by cases e; cases hp; show w7.heap.size ≠ g; omega)).mono ?_; rintro e w9 ⟨t, k9, rfl, htm, hk9, hs9, hkk9⟩)
              have hkk9 : Kept g (g + 1) w7 w9 := (Kept.of_below hbL).trans hkk9
              have hz9 := hkk9.size
              have ht12 : t.size ≤ 12 := (by decide : ∀ s ∈ ([⟨#[122, 122]⟩, ⟨#[112, 108, 117, 114, 97, 108]⟩, ⟨#[101, 114]⟩] : List ByteArray), s.size ≤ 12) t htm
              have HE9 := Lib.hid (HE7.out.kept hkk9)
              have HS9 := Lib.hid hs9
              have c9d := (src_cell (i := 1) (v := (.slice a9 l9.length c9)) HE9.out.der rfl).1
              refine hK9.out _ _ (trivial) (fun hHeld3 => ?_)
              clear hK9 K9
              try simp only [Act.put, List.getElem_toArray, List.getElem_cons_succ, List.getElem_cons_zero, List.setIfInBounds_toArray, List.set_cons_zero, List.set_cons_succ]
              refine wpAnyH_ready (rs := [1, 5]) (by kernel_rfl) (by simp) ?_
              refine AllReadyH.cons rfl (fun K9 hK9 => ?_) (AllReadyH.cons rfl (fun K9 hK9 => ?_) (AllReadyH.nil))
              · rw [if_pos (by rfl)]
                go_simp
                refine hK9.out _ _ (trivial) (fun hHeld4 => ?_)
                clear hK9 K9
                try simp only [Act.put, List.getElem_toArray, List.getElem_cons_succ, List.getElem_cons_zero, List.setIfInBounds_toArray, List.set_cons_zero, List.set_cons_succ]
                refine wpAnyH_ready (rs := [5]) (by kernel_rfl) (by simp) ?_
                refine AllReadyH.cons rfl (fun K9 hK9 => ?_) AllReadyH.nil
                rw [if_pos (by rfl)]
                have c9a := cell_allocQ (.cells #[.string t] 9) c9d
                go_simp
                refine hK9.out _ _ (trivial) (fun hHeld5 => ?_)
                clear hK9 K9
                try simp only [Act.put, List.getElem_toArray, List.getElem_cons_succ, List.getElem_cons_zero, List.setIfInBounds_toArray, List.set_cons_zero, List.set_cons_succ]
                refine wpAnyH_ready (rs := [6]) (by kernel_rfl) (by simp) ?_
                refine AllReadyH.cons rfl (fun K9 hK9 => ?_) AllReadyH.nil
                have hal := one_belowQ w9 (.cells #[.string t] 9)
                have hzl := hal.size
                have HEl := Lib.hid (HE9.out.under hal)
                have hq12 := HE9.out.oq
                have hBq9 : Bq ≤ (w9.alloc (.cells #[.string t] 9)).heap.size := by omega
                refine step_strQ ?_ (.tmp 64) (.tmp 68) ?_ Bq (.slice a9 l9.length c9) l9 HEl.out.own hBq9 (by omega) t w9.heap.size ?_ ?_ (heap_alloc_new w9 _) ?_; rfl; rfl; rfl; rfl
                intro gn cap wA howA hgrA hlocA
                obtain ⟨⟨cA, fA⟩, heA, hkA⟩ := HEl.out.push hBq9 hgrA howA (fun y hy => (List.mem_append.1 hy).elim (fun h => HEl.out.hl y h) (fun h => by rw [List.mem_singleton.1 h]; exact max12 (by omega)))
                refine hK9.out _ _ (trivial) (fun hHeld6 => ?_)
                clear hK9 K9
                try simp only [Act.put, List.getElem_toArray, List.getElem_cons_succ, List.getElem_cons_zero, List.setIfInBounds_toArray, List.set_cons_zero, List.set_cons_succ]
                refine wpAnyH_take (i := 7) (v := ?v26) rfl (by kernel_rfl) (by kernel_rfl) (by kernel_rfl) (fun _ _ _ h => h) (Or.inl ⟨by kernel_rfl, ?hy26⟩) (by assumption) ?_
                case hy26 => (intro w9 hS9; (try dsimp only at hS9); go_simp; (try with_reducible rfl))
                try simp only [Act.put, List.getElem_toArray, List.getElem_cons_succ, List.getElem_cons_zero, List.setIfInBounds_toArray, List.set_cons_zero, List.set_cons_succ]
                refine wpAnyH_ready (rs := [8]) (by kernel_rfl) (by simp) ?_
                refine AllReadyH.cons rfl (fun K9 hK9 => ?_) AllReadyH.nil
                rw [if_pos (by rfl)]
                go_simp
                refine hK9.out _ _ (trivial) (fun hHeld7 => ?_)
                clear hK9 K9
                try simp only [Act.put, List.getElem_toArray, List.getElem_cons_succ, List.getElem_cons_zero, List.setIfInBounds_toArray, List.set_cons_zero, List.set_cons_succ]
                refine wpAnyH_done (by kernel_rfl) ?_ _
                have hln : (l9 ++ [t]).length = l9.length + 1 := by simp
                have HEA : EndW w (wA.setCell ⟨gb + 1, 1, none⟩ (.slice (some ⟨gn, 0, none⟩) (l9.length + 1) cap)) Bq g gb (gb + 1) (.slice a1 x.affixes.length c1) (.slice a2 x.stems.length c2) sd (.slice (some ⟨gn, 0, none⟩) (l9 ++ [t]).length cap) (l9 ++ [t]) := by rw [hln]; exact heA
                have HSA := (HS9.out.below hal).low (hkA.low (by omega) (by omega))
                have hzA2 := hkA.size
                go_wp2_with fail
                go_meet
                exact ⟨rfl, Bq, sd, some ⟨gn, 0, none⟩, cap, l9 ++ [t], k9, HEA, by omega, by rw [hln]; omega, by omega, HSA⟩
              · rw [if_pos (by rfl)]
                have c9a := cell_allocQ (.cells #[.string t] 9) c9d
                go_simp
                refine hK9.out _ _ (trivial) (fun hHeld4 => ?_)
                clear hK9 K9
                try simp only [Act.put, List.getElem_toArray, List.getElem_cons_succ, List.getElem_cons_zero, List.setIfInBounds_toArray, List.set_cons_zero, List.set_cons_succ]
                refine wpAnyH_ready (rs := [1]) (by kernel_rfl) (by simp) ?_
                refine AllReadyH.cons rfl (fun K9 hK9 => ?_) AllReadyH.nil
                rw [if_pos (by rfl)]
                go_simp
                refine hK9.out _ _ (trivial) (fun hHeld5 => ?_)
                clear hK9 K9
                try simp only [Act.put, List.getElem_toArray, List.getElem_cons_succ, List.getElem_cons_zero, List.setIfInBounds_toArray, List.set_cons_zero, List.set_cons_succ]
                refine wpAnyH_ready (rs := [6]) (by kernel_rfl) (by simp) ?_
                refine AllReadyH.cons rfl (fun K9 hK9 => ?_) AllReadyH.nil
                have hal := one_belowQ w9 (.cells #[.string t] 9)
                have hzl := hal.size
                have HEl := Lib.hid (HE9.out.under hal)
                have hq12 := HE9.out.oq
                have hBq9 : Bq ≤ (w9.alloc (.cells #[.string t] 9)).heap.size := by omega
                refine step_strQ ?_ (.tmp 64) (.tmp 68) ?_ Bq (.slice a9 l9.length c9) l9 HEl.out.own hBq9 (by omega) t w9.heap.size ?_ ?_ (heap_alloc_new w9 _) ?_; rfl; rfl; rfl; rfl
                intro gn cap wA howA hgrA hlocA
                obtain ⟨⟨cA, fA⟩, heA, hkA⟩ := HEl.out.push hBq9 hgrA howA (fun y hy => (List.mem_append.1 hy).elim (fun h => HEl.out.hl y h) (fun h => by rw [List.mem_singleton.1 h]; exact max12 (by omega)))
                refine hK9.out _ _ (trivial) (fun hHeld6 => ?_)
                clear hK9 K9
                try simp only [Act.put, List.getElem_toArray, List.getElem_cons_succ, List.getElem_cons_zero, List.setIfInBounds_toArray, List.set_cons_zero, List.set_cons_succ]
                refine wpAnyH_take (i := 7) (v := ?v27) rfl (by kernel_rfl) (by kernel_rfl) (by kernel_rfl) (fun _ _ _ h => h) (Or.inl ⟨by kernel_rfl, ?hy27⟩) (by assumption) ?_
                case hy27 => (intro w9 hS9; (try dsimp only at hS9); go_simp; (try with_reducible rfl))
                try simp only [Act.put, List.getElem_toArray, List.getElem_cons_succ, List.getElem_cons_zero, List.setIfInBounds_toArray, List.set_cons_zero, List.set_cons_succ]
                refine wpAnyH_ready (rs := [8]) (by kernel_rfl) (by simp) ?_
                refine AllReadyH.cons rfl (fun K9 hK9 => ?_) AllReadyH.nil
                rw [if_pos (by rfl)]
                go_simp
                refine hK9.out _ _ (trivial) (fun hHeld7 => ?_)
                clear hK9 K9
                try simp only [Act.put, List.getElem_toArray, List.getElem_cons_succ, List.getElem_cons_zero, List.setIfInBounds_toArray, List.set_cons_zero, List.set_cons_succ]
                refine wpAnyH_done (by kernel_rfl) ?_ _
                have hln : (l9 ++ [t]).length = l9.length + 1 := by simp
                have HEA : EndW w (wA.setCell ⟨gb + 1, 1, none⟩ (.slice (some ⟨gn, 0, none⟩) (l9.length + 1) cap)) Bq g gb (gb + 1) (.slice a1 x.affixes.length c1) (.slice a2 x.stems.length c2) sd (.slice (some ⟨gn, 0, none⟩) (l9 ++ [t]).length cap) (l9 ++ [t]) := by rw [hln]; exact heA
                have HSA := (HS9.out.below hal).low (hkA.low (by omega) (by omega))
                have hzA2 := hkA.size
                go_wp2_with fail
                go_meet
                exact ⟨rfl, Bq, sd, some ⟨gn, 0, none⟩, cap, l9 ++ [t], k9, HEA, by omega, by rw [hln]; omega, by omega, HSA⟩
      case rest =>
        obtain ⟨rfl, Bq2, sd2, a9, c9, l9, k8, he8, hz8, -, -, -⟩ := hcut
        have HE8 := Lib.hid he8
        clear he8 HE7 HS7 HE6 HS6
        obtain ⟨w8, hw8⟩ : ∃ z, z = wc := ⟨_, rfl⟩
        subst hw8
        obtain ⟨x0, y0⟩ := HE8.out.box.c0
        obtain ⟨x1, y1⟩ := HE8.out.box.c1
        obtain ⟨d0, q0⟩ := src_cell (i := 0) (v := .string sd2) HE8.out.der rfl
        obtain ⟨d1, q1⟩ := src_cell (i := 1) (v := (.slice a9 l9.length c9)) HE8.out.der rfl
        obtain ⟨r0, p0⟩ := src_cell (i := 0) (v := .slice none 0 0) HE8.out.r1 rfl
        obtain ⟨r1, p1⟩ := src_cell (i := 1) (v := .slice none 0 0) HE8.out.r1 rfl
        obtain ⟨r2, p2⟩ := src_cell (i := 0) (v := .string ⟨#[]⟩) HE8.out.r2 rfl
        obtain ⟨r3, p3⟩ := src_cell (i := 1) (v := .slice none 0 0) HE8.out.r2 rfl
        go_upto_region 13 with fail
        refine wp_region_held_drew (S := (fun w' => w'.cell? ⟨gb, 0, none⟩ = some (.slice a1 x.affixes.length c1) ∧ w'.cell? ⟨gb, 1, none⟩ = some (.slice a2 x.stems.length c2) ∧ w'.cell? ⟨gb + 1, 0, none⟩ = some (.string sd2) ∧ w'.cell? ⟨gb + 1, 1, none⟩ = some (.slice a9 l9.length c9))) (by kernel_rfl) ?_ (fun hHeld => ?_)
        · exact ⟨x0, x1, d0, d1⟩
        refine wpAnyH_take (i := 0) (v := ?v28) rfl (by kernel_rfl) (by kernel_rfl) (by kernel_rfl) (fun _ _ _ h => h) (Or.inl ⟨by kernel_rfl, ?hy28⟩) (by assumption) ?_
        case hy28 => (intro w9 hS9; (try dsimp only at hS9); go_simp; (try with_reducible rfl))
        try simp only [Act.put, List.getElem_toArray, List.getElem_cons_succ, List.getElem_cons_zero, List.setIfInBounds_toArray, List.set_cons_zero, List.set_cons_succ]
        refine wpAnyH_take (i := 1) (v := ?v29) rfl (by kernel_rfl) (by kernel_rfl) (by kernel_rfl) (fun _ _ _ h => h) (Or.inl ⟨by kernel_rfl, ?hy29⟩) (by assumption) ?_
        case hy29 => (intro w9 hS9; (try dsimp only at hS9); go_simp; (try with_reducible rfl))
        try simp only [Act.put, List.getElem_toArray, List.getElem_cons_succ, List.getElem_cons_zero, List.setIfInBounds_toArray, List.set_cons_zero, List.set_cons_succ]
        refine wpAnyH_ready (rs := [2]) (by kernel_rfl) (by simp) ?_
        refine AllReadyH.cons rfl (fun K9 hK9 => ?_) AllReadyH.nil
        rw [if_pos (by rfl)]
        go_simp
        refine hK9.out _ _ (⟨cell_setQ (by omega) (cell_setQ (by omega) x0), cell_setQ (by omega) (cell_setQ (by omega) x1), cell_setQ (by omega) (cell_setQ (by omega) d0), cell_setQ (by omega) (cell_setQ (by omega) d1)⟩) (fun hHeld2 => ?_)
        clear hK9 K9
        try simp only [Act.put, List.getElem_toArray, List.getElem_cons_succ, List.getElem_cons_zero, List.setIfInBounds_toArray, List.set_cons_zero, List.set_cons_succ]
        obtain ⟨e0, e1, e2, e3⟩ := hHeld2
        refine wpAnyH_ready (rs := [3]) (by kernel_rfl) (by simp) ?_
        refine AllReadyH.cons rfl (fun K9 hK9 => ?_) AllReadyH.nil
        rw [if_pos (by rfl)]
        go_simp
        refine hK9.out _ _ (⟨cell_setQ (by omega) (cell_setQ (by omega) e0), cell_setQ (by omega) (cell_setQ (by omega) e1), cell_setQ (by omega) (cell_setQ (by omega) e2), cell_setQ (by omega) (cell_setQ (by omega) e3)⟩) (fun hHeld3 => ?_)
        clear hK9 K9
        try simp only [Act.put, List.getElem_toArray, List.getElem_cons_succ, List.getElem_cons_zero, List.setIfInBounds_toArray, List.set_cons_zero, List.set_cons_succ]
        refine wpAnyH_done (by kernel_rfl) ?_ _
        go_wp2
        obtain ⟨st1, st2, hdw, hbe⟩ := HE8.out.done
        exact bodyPost_ret (v := .tuple #[.agg #[(.slice a1 x.affixes.length c1), (.slice a2 x.stems.length c2)], .agg #[.string sd2, (.slice a9 l9.length c9)]]) (results_cc (p := 2) (q := 3) (ty := 27) (ty2 := 37) rfl _ _ w.heap.size (w.heap.size + 1) _ _ _ _ _ _ _ _ rfl st1 rfl st2 Tryz.underlying27 rfl infoGra Tryz.underlying37 rfl infoDerQ) rfl ⟨_, _, _, _, rfl, hdw, hbe.drew⟩
end Go.Proofs.YtndfhmphlomeiaaGreatDoor
