/- ReadGrammar of the program. Conditions: a text of at most 2^20 bytes; MaxLen's cell; Go's own bound on the bytes of a slice. -/
import Derived.Test.YtndfhmphlomeiaaGreatDoorRgT
import Derived.Test.YtndfhmphlomeiaaGreatDoorK10
import Derived.Deep.DeepCutAuto
set_option linter.unusedSimpArgs false
namespace Go.Proofs.YtndfhmphlomeiaaGreatDoor
open Go.RowKit
attribute [local irreducible] Calls
theorem undashed_is {s r : ByteArray} (h : unB s = r) (w : World) : Calls Tryz.prog 27 #[.string s] w fun e w' => e = .returned (.string r) ∧ w = w' := by
  subst h
  cases h : (s.toList == [45])
  · have H := Lib.hid (show unB s = s by simp [unB, h])
    go_enter Tryz.func27, Tryz.ntmps27
    go_wp2
    go_ret
    exact ⟨ret_str H.out.symm, rfl⟩
  · have H := Lib.hid (show unB s = ⟨#[]⟩ by simp [unB, h])
    go_enter Tryz.func27, Tryz.ntmps27
    go_wp2
    go_ret
    exact ⟨ret_str H.out.symm, rfl⟩
theorem linesL_len (s : ByteArray) : (linesL s).length ≤ s.size + 1 := by
  unfold linesL
  split
  · simp
  · have := splitW_len 10 (bodyS s)
    have h2 : (bodyS s).size ≤ s.size := by
      unfold bodyS; split
      · rw [ByteArray.size_extract]; omega
      · exact Nat.le_refl _
    omega
theorem linesL_part {s p : ByteArray} (h : p ∈ linesL s) : p.size ≤ s.size := by
  unfold linesL at h
  split at h
  · simp at h
  · have := splitW_part h
    have h2 : (bodyS s).size ≤ s.size := by
      unfold bodyS; split
      · rw [ByteArray.size_extract]; omega
      · exact Nat.le_refl _
    omega
theorem linesB_ne {s : ByteArray} (h : linesB s = false) : linesL s ≠ [] := by
  unfold linesB at h
  unfold linesL
  by_cases h0 : s.size = 0
  · rw [if_pos h0] at h; cases h
  · rw [if_neg h0]; intro e; have := splitW_ne 10 (bodyS s); rw [e] at this; simp at this
theorem GB.graRx {w : World} {B gb v1 v2 g q us} (h : GB w B gb v1 v2 g q us) : GraR w (.agg #[v1, v2]) g := ⟨v1, v2, rfl, h.graR.1, h.graR.2⟩
set_option maxHeartbeats 16000000 in
set_option maxRecDepth 100000 in
theorem implReadGrammar_any (s : ByteArray) (w : World) (hs : s.size ≤ 1048576) (hM : MaxL w) :
    Calls Tryz.prog 7 #[.string s] w fun e w' => ∃ v', e = .returned (.tuple #[v', .bool (rgB s)]) ∧ GraX w' w.heap.size w'.heap.size v' (rgG s) ∧ Below w.heap.size w w' := by
  have hb0 : Below w.heap.size w (w.alloc (.cells #[.slice none 0 0, .slice none 0 0] 27)) := (Below.refl _ _).alloc (Nat.le_refl _) _
  have HR0 := Lib.hid (heap_alloc_new w (.cells #[.slice none 0 0, .slice none 0 0] 27))
  have hz0 : w.heap.size < (w.alloc (.cells #[.slice none 0 0, .slice none 0 0] 27)).heap.size := by simp
  have HB0 := Lib.hid hb0
  have HM := Lib.hid hM
  clear hb0 hM
  go_enter Tryz.func7, Tryz.ntmps7
  go_wp2_with fail
  refine (linesOf_any s _ hs (HM.out.below HB0.out)).mono ?_
  rintro e w2 ⟨vl, rfl, hl, hb1⟩
  obtain ⟨ls, hls⟩ : ∃ ls, ls = linesL s := ⟨_, rfl⟩
  rw [← hls] at hl
  have HLS := Lib.hid hls
  have hlsn : ls.length ≤ 1048577 := by rw [hls]; have := linesL_len s; omega
  obtain ⟨a, c, rfl, hlc, hcm, hcs⟩ := hl.read.shape
  have HCS := Lib.hid hcs
  have HL := Lib.hid hl
  have HB2 := Lib.hid (HB0.out.trans (hb1.mono HB0.out.size))
  have HR2 := Lib.hid ((hb1.block w.heap.size hz0).trans HR0.out)
  have hz2 : w.heap.size < w2.heap.size := Nat.lt_of_lt_of_le hz0 hb1.size
  unfold maxLen at hcm
  clear hl hb1 hcs hls
  have hlb : ls ≠ [] → w.heap.size + 2 ≤ w2.heap.size := by
    intro hne
    have h1 : 1 ≤ ls.length := Nat.pos_of_ne_zero (fun h0 => hne (List.length_eq_zero_iff.mp h0))
    obtain ⟨b, o, eb, -⟩ := HCS.out 0 h1
    have hbk := (StrsW.block HL.out h1 b o eb)
    rw [World.size_alloc] at hbk
    omega
  cases hok : linesB s
  · have HN := Lib.hid (impl_no (.inl hok))
    have hz2b := hlb (fun e => linesB_ne hok (by rw [← HLS.out]; exact e))
    have two := twoOf HR2.out (.slice none 0 0)
    have tc0 := two.c0
    have tf0 := two.f0
    have tc1 := two.c1
    have tf1 := two.f1
    clear two
    go_wp2
    refine bodyPost_ret (v := .tuple #[.agg #[.slice none 0 0, .slice none 0 0], .bool false]) (res_cell_rowG (p := 2) (u := 3) (ty := 27) rfl _ _ w.heap.size _ _ _ _ rfl (store_nilG HR2.out _ _) Tryz.underlying27 rfl infoGra) rfl ⟨_, by rw [(rg_none HN.out).2], by rw [(rg_none HN.out).1]; exact graX_nil _ (by rw [two_set_size]; have := HB2.out.size; omega), two_set_below HB2.out (Nat.le_refl _) _ _⟩
  by_cases h42 : 42 < ls.length
  · have HN := Lib.hid (impl_no (.inr (.inl (by rw [← HLS.out]; exact h42))))
    have h42I : (42 : Int) < (ls.length : Int) := by omega
    have hz2b := hlb (fun e => by rw [e] at h42; simp at h42)
    have two := twoOf HR2.out (.slice none 0 0)
    have tc0 := two.c0
    have tf0 := two.f0
    have tc1 := two.c1
    have tf1 := two.f1
    clear two
    go_wp2
    refine bodyPost_ret (v := .tuple #[.agg #[.slice none 0 0, .slice none 0 0], .bool false]) (res_cell_rowG (p := 2) (u := 3) (ty := 27) rfl _ _ w.heap.size _ _ _ _ rfl (store_nilG HR2.out _ _) Tryz.underlying27 rfl infoGra) rfl ⟨_, by rw [(rg_none HN.out).2], by rw [(rg_none HN.out).1]; exact graX_nil _ (by rw [two_set_size]; have := HB2.out.size; omega), two_set_below HB2.out (Nat.le_refl _) _ _⟩
  have h42I : ¬ ((42 : Int) < (ls.length : Int)) := by omega
  have HOK := Lib.hid hok
  have hb3 : Below w2.heap.size w2 (w2.alloc (.cells #[.slice none 0 0, .slice none 0 0] 27)) := (Below.refl _ _).alloc (Nat.le_refl _) _
  have HG0 : Hid (GB (w2.alloc (.cells #[.slice none 0 0, .slice none 0 0] 27)) (w2.heap.size + 1) w2.heap.size (.slice none 0 0) (.slice none 0 0) emptyG (fun _ => 0) []) := Lib.hid (GB.start (heap_alloc_new w2 _) (by omega))
  have HR3 := Lib.hid ((hb3.block w.heap.size hz2).trans HR2.out)
  have HBx := Lib.hid (HB2.out.trans (hb3.mono HB2.out.size))
  have HBb := Lib.hid hb3
  have hz3 : w2.heap.size + 1 ≤ (w2.alloc (.cells #[.slice none 0 0, .slice none 0 0] 27)).heap.size := by simp
  clear hb3 hok
  go_wp2
  generalize w2.alloc (.cells #[.slice none 0 0, .slice none 0 0] 27) = wx at HG0 HR3 HBx HBb hz3 ⊢
  have HK0 : Hid (KeepG (w2.heap.size + 1) w2.heap.size wx wx) := Lib.hid (KeepG.refl _ _ _)
  go_loopw [26] (fun i wr => ∃ (j : Nat) (v1 v2 : Value) (g : GraD) (q : Nat → Nat) (us : List Value), j ≤ ls.length ∧ i = .int .i64 (j : Int) ∧ Hid (foldG implLine emptyG (ls.take j) = some g) ∧ Hid (GB wr (w2.heap.size + 1) w2.heap.size v1 v2 g q us) ∧ Hid (KeepG (w2.heap.size + 1) w2.heap.size wx wr)) (fun i _ => ls.length - (intOf i).toNat)
  case atStart => exact ⟨0, _, _, emptyG, _, _, by omega, rfl, Lib.hid rfl, HG0, HK0⟩
  case round =>
    clear HG0 HK0
    obtain ⟨j, v1, v2, g, q, us, hj, rfl, HF, HG, HK⟩ := hrel
    have hszr := HK.out.size
    have HRr := Lib.hid ((HK.out.block w.heap.size (by omega) (by omega)).trans HR3.out)
    have HBr := Lib.hid (HBx.out.trans (HK.out.below (C := w.heap.size) (by omega) (by omega)))
    have hgl := line_len (fun g ws g' h => implLine_len h) _ _ _ HF.out
    rw [List.length_take] at hgl
    have hga : g.affixes.length ≤ 1000 := by simp [emptyG] at hgl; omega
    have hgs : g.stems.length ≤ 1000 := by simp [emptyG] at hgl; omega
    obtain ⟨a1, c1, rfl, hl1, hk1⟩ := own_shape HG.out.aff
    obtain ⟨a2, c2, rfl, hl2, hk2⟩ := own_shape HG.out.stm
    unfold maxLen at hk1 hk2
    clear hgl
    by_cases hlt : j < ls.length
    · obtain ⟨b1, o1, rfl, hcj, -⟩ := HCS.out j hlt
      have hb1lt : b1 < w2.heap.size := cell_lt hcj
      have hcj := HK.out.cell (by omega) (by omega) (cell_below HBb.out hcj)
      have hsz : ls[j].size ≤ 1048576 := by
        have := linesL_part (s := s) (p := ls[j]) (by rw [← HLS.out]; exact List.getElem_mem _)
        omega
      have hjI : (j : Int) < (ls.length : Int) := by omega
      go_wp2_with fail
      refine (split_any ls[j] 32 _ hsz (HM.out.below HBr.out)).mono ?_
      rintro e w3 ⟨vw, rfl, hw3, hb3⟩
      obtain ⟨ws, hws⟩ : ∃ ws, ws = splitW 32 ls[j] := ⟨_, rfl⟩
      have hwl := splitW_len 32 ls[j]
      have hwn := splitW_ne 32 ls[j]
      rw [← hws] at hw3 hwl hwn
      have hFn := foldG_take hlt HF.out
      rw [← hws] at hFn
      have HFn := Lib.hid hFn
      obtain ⟨aw, c, rfl, hl, hc, hcs⟩ := hw3.read.shape
      obtain ⟨b0, o0, rfl, hc0, -⟩ := hcs 0 (by omega)
      rw [Nat.add_zero] at hc0
      have HC := Lib.hid hcs
      have HW := Lib.hid hw3
      have HSz := Lib.hid hw3.2
      have HGr := HG
      have HG3 := Lib.hid (HG.out.below hb3)
      have HK3 := Lib.hid (HK.out.trans (KeepG.of_below hb3 (by omega)))
      have hw0 := HG3.out.cell0.1
      have hw1 := HG3.out.cell1.1
      have hB3 : w2.heap.size + 1 ≤ w3.heap.size := by have := hb3.size; omega
      have e0 : atW ws 0 = ws[0] := atW_at (by omega)
      have h0I : (0 : Int) < (ws.length : Int) := by omega
      have hb0b : wr.heap.size ≤ b0 ∧ b0 < w3.heap.size := HW.out.block (by omega) b0 o0 rfl
      have hb0lt : b0 < w3.heap.size := hb0b.2
      have hb0n : some b0 ≠ (Value.slice a1 g.affixes.length c1).ownBlock := fun e => by have := (World.ownsRow.lt HGr.out.aff b0 e.symm).2; omega
      have hb0n2 : some b0 ≠ (Value.slice a2 g.stems.length c2).ownBlock := fun e => by have := (World.ownsRow.lt HGr.out.stm b0 e.symm).2; omega
      have hb0gb : b0 ≠ w2.heap.size := by omega
      unfold maxLen at hc
      clear hb3 hw3 hcs hcj hFn hws
      by_cases hA : (ws[0].toList == affKey) = true ∧ ws.length = 6
      · obtain ⟨h1, h2⟩ := hA
        obtain ⟨b1', o1', e1, hc1, -⟩ := HC.out 1 (by omega)
        cases e1
        obtain ⟨b1', o1', e1, hc2, -⟩ := HC.out 2 (by omega)
        cases e1
        obtain ⟨b1', o1', e1, hc3, -⟩ := HC.out 3 (by omega)
        cases e1
        obtain ⟨b1', o1', e1, hc4, -⟩ := HC.out 4 (by omega)
        cases e1
        obtain ⟨b1', o1', e1, hc5, -⟩ := HC.out 5 (by omega)
        cases e1
        have h6 : ((ws.length : Int) == 6) = true := by rw [beq_iff_eq]; omega
        have h1a := h1
        unfold affKey at h1
        have hl1I : (1 : Int) < (ws.length : Int) := by omega
        have hl2I : (2 : Int) < (ws.length : Int) := by omega
        have hl3I : (3 : Int) < (ws.length : Int) := by omega
        have hl4I : (4 : Int) < (ws.length : Int) := by omega
        have hl5I : (5 : Int) < (ws.length : Int) := by omega
        obtain ⟨p3, hp3⟩ : ∃ p, unB ws[3] = p := ⟨_, rfl⟩
        obtain ⟨p4, hp4⟩ : ∃ p, unB ws[4] = p := ⟨_, rfl⟩
        obtain ⟨p5, hp5⟩ : ∃ p, unB ws[5] = p := ⟨_, rfl⟩
        obtain ⟨fb, hfb⟩ : ∃ fb, (ws[2].toList == [102, 114, 111, 110, 116]) = fb := ⟨_, rfl⟩
        have HP := Lib.hid (And.intro hp3 (And.intro hp4 hp5))
        have hsz2 := HW.out.2
        have HLim : Hid (AffLim ⟨ws[1], fb, p3, p4, p5⟩ maxLen) := Lib.hid ⟨hsz2 _ (List.getElem_mem _), by rw [← hp3]; exact unB_le (hsz2 _ (List.getElem_mem _)), by rw [← hp4]; exact unB_le (hsz2 _ (List.getElem_mem _)), by rw [← hp5]; exact unB_le (hsz2 _ (List.getElem_mem _))⟩
        obtain ⟨iA, hi, hzA0, hzA1, hzA2⟩ := info_parts infoAffS
        have HS : Hid (implLine g ws = some ⟨g.affixes ++ [⟨ws[1], fb, p3, p4, p5⟩], g.stems⟩) := Lib.hid (by
          unfold implLine affOfW
          rw [if_pos ⟨by rw [e0]; exact h1a, h2⟩, atW_at (show 1 < ws.length by omega), atW_at (show 2 < ws.length by omega), atW_at (show 3 < ws.length by omega), atW_at (show 4 < ws.length by omega), atW_at (show 5 < ws.length by omega), hp3, hp4, hp5, ← hfb]
          rfl)
        have hBa : w2.heap.size + 1 ≤ (w3.alloc (.cells #[.string ws[1], .bool fb, .string p3, .string p4, .string p5] 51)).drew.heap.size := Nat.le_trans hB3 (one_belowS w3 _).size
        have hw0a := cell_alloc (.cells #[.string ws[1], .bool fb, .string p3, .string p4, .string p5] 51) hw0
        clear hp3 hp4 hp5 hsz2 h1a
        go_upto_region 11 with fail
        refine wp_region_held_drew (S := (fun w' => w'.cell? ⟨b0, o0 + 1, none⟩ = some (.string ws[1]) ∧ w'.cell? ⟨b0, o0 + 2, none⟩ = some (.string ws[2]) ∧ w'.cell? ⟨b0, o0 + 3, none⟩ = some (.string ws[3]) ∧ w'.cell? ⟨b0, o0 + 4, none⟩ = some (.string ws[4]) ∧ w'.cell? ⟨b0, o0 + 5, none⟩ = some (.string ws[5]))) (by kernel_rfl) ?_ (fun hHeld => ?_)
        · exact ⟨hc1, hc2, hc3, hc4, hc5⟩
        refine wpAnyH_take (i := 0) (v := ?v1) rfl (by kernel_rfl) (by kernel_rfl) (by kernel_rfl) (fun _ _ _ h => h) (Or.inl ⟨by kernel_rfl, ?hy1⟩) (by assumption) ?_
        case hy1 => (intro w9 hS9; (try dsimp only at hS9); go_simp; (try with_reducible rfl))
        try simp only [Act.put, List.getElem_toArray, List.getElem_cons_succ, List.getElem_cons_zero, List.setIfInBounds_toArray, List.set_cons_zero, List.set_cons_succ]
        refine wpAnyH_take (i := 2) (v := ?v2) rfl (by kernel_rfl) (by kernel_rfl) (by kernel_rfl) (fun _ _ _ h => h) (Or.inl ⟨by kernel_rfl, ?hy2⟩) (by assumption) ?_
        case hy2 => (intro w9 hS9; (try dsimp only at hS9); go_simp; (try with_reducible rfl))
        try simp only [Act.put, List.getElem_toArray, List.getElem_cons_succ, List.getElem_cons_zero, List.setIfInBounds_toArray, List.set_cons_zero, List.set_cons_succ]
        refine wpAnyH_take (i := 3) (v := ?v3) rfl (by kernel_rfl) (by kernel_rfl) (by kernel_rfl) (fun _ _ _ h => h) (Or.inl ⟨by kernel_rfl, ?hy3⟩) (by assumption) ?_
        case hy3 => (intro w9 hS9; (try dsimp only at hS9); go_simp; (try with_reducible rfl))
        try simp only [Act.put, List.getElem_toArray, List.getElem_cons_succ, List.getElem_cons_zero, List.setIfInBounds_toArray, List.set_cons_zero, List.set_cons_succ]
        refine wpAnyH_take (i := 4) (v := ?v4) rfl (by kernel_rfl) (by kernel_rfl) (by kernel_rfl) (fun _ _ _ h => h) (Or.inl ⟨by kernel_rfl, ?hy4⟩) (by assumption) ?_
        case hy4 => (intro w9 hS9; (try dsimp only at hS9); go_simp; (try with_reducible rfl))
        try simp only [Act.put, List.getElem_toArray, List.getElem_cons_succ, List.getElem_cons_zero, List.setIfInBounds_toArray, List.set_cons_zero, List.set_cons_succ]
        refine wpAnyH_take (i := 5) (v := ?v5) rfl (by kernel_rfl) (by kernel_rfl) (by kernel_rfl) (fun _ _ _ h => h) (Or.inl ⟨by kernel_rfl, ?hy5⟩) (by assumption) ?_
        case hy5 => (intro w9 hS9; (try dsimp only at hS9); go_simp; (try with_reducible rfl))
        try simp only [Act.put, List.getElem_toArray, List.getElem_cons_succ, List.getElem_cons_zero, List.setIfInBounds_toArray, List.set_cons_zero, List.set_cons_succ]
        refine wpAnyH_take (i := 6) (v := ?v6) rfl (by kernel_rfl) (by kernel_rfl) (by kernel_rfl) (fun _ _ _ h => h) (Or.inl ⟨by kernel_rfl, ?hy6⟩) (by assumption) ?_
        case hy6 => (intro w9 hS9; (try dsimp only at hS9); go_simp; (try with_reducible rfl))
        try simp only [Act.put, List.getElem_toArray, List.getElem_cons_succ, List.getElem_cons_zero, List.setIfInBounds_toArray, List.set_cons_zero, List.set_cons_succ]
        refine wpAnyH_take (i := 7) (v := ?v7) rfl (by kernel_rfl) (by kernel_rfl) (by kernel_rfl) (fun _ _ _ h => h) (Or.inl ⟨by kernel_rfl, ?hy7⟩) (by assumption) ?_
        case hy7 => (intro w9 hS9; (try dsimp only at hS9); go_simp; (try with_reducible rfl))
        try simp only [Act.put, List.getElem_toArray, List.getElem_cons_succ, List.getElem_cons_zero, List.setIfInBounds_toArray, List.set_cons_zero, List.set_cons_succ]
        refine wpAnyH_take (i := 8) (v := ?v8) rfl (by kernel_rfl) (by kernel_rfl) (by kernel_rfl) (fun _ _ _ h => h) (Or.inl ⟨by kernel_rfl, ?hy8⟩) (by assumption) ?_
        case hy8 => (intro w9 hS9; (try dsimp only at hS9); go_simp; (try with_reducible rfl))
        try simp only [Act.put, List.getElem_toArray, List.getElem_cons_succ, List.getElem_cons_zero, List.setIfInBounds_toArray, List.set_cons_zero, List.set_cons_succ]
        refine wpAnyH_take (i := 9) (v := ?v9) rfl (by kernel_rfl) (by kernel_rfl) (by kernel_rfl) (fun _ _ _ h => h) (Or.inl ⟨by kernel_rfl, ?hy9⟩) (by assumption) ?_
        case hy9 => (intro w9 hS9; (try dsimp only at hS9); go_simp; (try with_reducible rfl))
        try simp only [Act.put, List.getElem_toArray, List.getElem_cons_succ, List.getElem_cons_zero, List.setIfInBounds_toArray, List.set_cons_zero, List.set_cons_succ]
        refine wpAnyH_take (i := 10) (v := ?v10) rfl (by kernel_rfl) (by kernel_rfl) (by kernel_rfl) (fun _ _ _ h => h) (Or.inl ⟨by kernel_rfl, ?hy10⟩) (by assumption) ?_
        case hy10 => (intro w9 hS9; (try dsimp only at hS9); go_simp; (try with_reducible rfl))
        try simp only [Act.put, List.getElem_toArray, List.getElem_cons_succ, List.getElem_cons_zero, List.setIfInBounds_toArray, List.set_cons_zero, List.set_cons_succ]
        refine wpAnyH_take (i := 11) (v := ?v11) rfl (by kernel_rfl) (by kernel_rfl) (by kernel_rfl) (fun _ _ _ h => h) (Or.inl ⟨by kernel_rfl, ?hy11⟩) (by assumption) ?_
        case hy11 => (intro w9 hS9; (try dsimp only at hS9); go_simp; (try with_reducible rfl))
        try simp only [Act.put, List.getElem_toArray, List.getElem_cons_succ, List.getElem_cons_zero, List.setIfInBounds_toArray, List.set_cons_zero, List.set_cons_succ]
        refine wpAnyH_take (i := 13) (v := ?v12) rfl (by kernel_rfl) (by kernel_rfl) (by kernel_rfl) (fun _ _ _ h => h) (Or.inl ⟨by kernel_rfl, ?hy12⟩) (by assumption) ?_
        case hy12 => (intro w9 hS9; (try dsimp only at hS9); go_simp; (try with_reducible rfl))
        try simp only [Act.put, List.getElem_toArray, List.getElem_cons_succ, List.getElem_cons_zero, List.setIfInBounds_toArray, List.set_cons_zero, List.set_cons_succ]
        refine wpAnyH_take (i := 14) (v := ?v13) rfl (by kernel_rfl) (by kernel_rfl) (by kernel_rfl) (fun _ _ _ h => h) (Or.inl ⟨by kernel_rfl, ?hy13⟩) (by assumption) ?_
        case hy13 => (intro w9 hS9; (try dsimp only at hS9); go_simp; (try with_reducible rfl))
        try simp only [Act.put, List.getElem_toArray, List.getElem_cons_succ, List.getElem_cons_zero, List.setIfInBounds_toArray, List.set_cons_zero, List.set_cons_succ]
        refine wpAnyH_take (i := 15) (v := ?v14) rfl (by kernel_rfl) (by kernel_rfl) (by kernel_rfl) (fun _ _ _ h => h) (Or.inl ⟨by kernel_rfl, ?hy14⟩) (by assumption) ?_
        case hy14 => (intro w9 hS9; (try dsimp only at hS9); go_simp; (try with_reducible rfl))
        try simp only [Act.put, List.getElem_toArray, List.getElem_cons_succ, List.getElem_cons_zero, List.setIfInBounds_toArray, List.set_cons_zero, List.set_cons_succ]
        refine wpAnyH_take (i := 17) (v := ?v15) rfl (by kernel_rfl) (by kernel_rfl) (by kernel_rfl) (fun _ _ _ h => h) (Or.inl ⟨by kernel_rfl, ?hy15⟩) (by assumption) ?_
        case hy15 => (intro w9 hS9; (try dsimp only at hS9); go_simp; (try with_reducible rfl))
        try simp only [Act.put, List.getElem_toArray, List.getElem_cons_succ, List.getElem_cons_zero, List.setIfInBounds_toArray, List.set_cons_zero, List.set_cons_succ]
        refine wpAnyH_take (i := 18) (v := ?v16) rfl (by kernel_rfl) (by kernel_rfl) (by kernel_rfl) (fun _ _ _ h => h) (Or.inl ⟨by kernel_rfl, ?hy16⟩) (by assumption) ?_
        case hy16 => (intro w9 hS9; (try dsimp only at hS9); go_simp; (try with_reducible rfl))
        try simp only [Act.put, List.getElem_toArray, List.getElem_cons_succ, List.getElem_cons_zero, List.setIfInBounds_toArray, List.set_cons_zero, List.set_cons_succ]
        refine wpAnyH_take (i := 19) (v := ?v17) rfl (by kernel_rfl) (by kernel_rfl) (by kernel_rfl) (fun _ _ _ h => h) (Or.inl ⟨by kernel_rfl, ?hy17⟩) (by assumption) ?_
        case hy17 => (intro w9 hS9; (try dsimp only at hS9); go_simp; (try with_reducible rfl))
        try simp only [Act.put, List.getElem_toArray, List.getElem_cons_succ, List.getElem_cons_zero, List.setIfInBounds_toArray, List.set_cons_zero, List.set_cons_succ]
        refine wpAnyH_ready (rs := [1, 12]) (by kernel_rfl) (by simp) ?_
        refine AllReadyH.cons rfl (fun K9 hK9 => ?_) (AllReadyH.cons rfl (fun K9 hK9 => ?_) (AllReadyH.nil))
        · rw [if_pos (by rfl)]
          go_simp
          refine hK9.out _ _ (by assumption) (fun hHeld2 => ?_)
          clear hK9 K9
          try simp only [Act.put, List.getElem_toArray, List.getElem_cons_succ, List.getElem_cons_zero, List.setIfInBounds_toArray, List.set_cons_zero, List.set_cons_succ]
          refine wpAnyH_ready (rs := [12]) (by kernel_rfl) (by simp) ?_
          refine AllReadyH.cons rfl (fun K9 hK9 => ?_) AllReadyH.nil
          rw [if_pos (by rfl)]
          go_wp2_with (go_at_call 27; refine (undashed_is HP.out.1 _).mono ?_; rintro e w13 ⟨rfl, rfl⟩)
          refine hK9.out _ _ (by assumption) (fun hHeld3 => ?_)
          clear hK9 K9
          try simp only [Act.put, List.getElem_toArray, List.getElem_cons_succ, List.getElem_cons_zero, List.setIfInBounds_toArray, List.set_cons_zero, List.set_cons_succ]
          refine wpAnyH_ready (rs := [16]) (by kernel_rfl) (by simp) ?_
          refine AllReadyH.cons rfl (fun K9 hK9 => ?_) AllReadyH.nil
          rw [if_pos (by rfl)]
          go_wp2_with (go_at_call 27; refine (undashed_is HP.out.2.1 _).mono ?_; rintro e w14 ⟨rfl, rfl⟩)
          refine hK9.out _ _ (by assumption) (fun hHeld4 => ?_)
          clear hK9 K9
          try simp only [Act.put, List.getElem_toArray, List.getElem_cons_succ, List.getElem_cons_zero, List.setIfInBounds_toArray, List.set_cons_zero, List.set_cons_succ]
          refine wpAnyH_ready (rs := [20]) (by kernel_rfl) (by simp) ?_
          refine AllReadyH.cons rfl (fun K9 hK9 => ?_) AllReadyH.nil
          rw [if_pos (by rfl)]
          go_wp2_with (go_at_call 27; refine (undashed_is HP.out.2.2 _).mono ?_; rintro e w15 ⟨rfl, rfl⟩)
          refine hK9.out _ _ (by assumption) (fun hHeld5 => ?_)
          clear hK9 K9
          try simp only [Act.put, List.getElem_toArray, List.getElem_cons_succ, List.getElem_cons_zero, List.setIfInBounds_toArray, List.set_cons_zero, List.set_cons_succ]
          refine wpAnyH_take (i := 21) (v := ?v18) rfl (by kernel_rfl) (by kernel_rfl) (by kernel_rfl) (fun _ _ _ h => h) (Or.inl ⟨by kernel_rfl, ?hy18⟩) (by assumption) ?_
          case hy18 => (intro w9 hS9; (try dsimp only at hS9); go_simp; (try with_reducible rfl))
          try simp only [Act.put, List.getElem_toArray, List.getElem_cons_succ, List.getElem_cons_zero, List.setIfInBounds_toArray, List.set_cons_zero, List.set_cons_succ]
          refine wpAnyH_ready (rs := [22]) (by kernel_rfl) (by simp) ?_
          refine AllReadyH.cons rfl (fun K9 hK9 => ?_) AllReadyH.nil
          rw [if_pos (by rfl)]
          go_simp
          refine hK9.out _ _ (⟨cell_alloc _ hc1, cell_alloc _ hc2, cell_alloc _ hc3, cell_alloc _ hc4, cell_alloc _ hc5⟩) (fun hHeld6 => ?_)
          clear hK9 K9
          try simp only [Act.put, List.getElem_toArray, List.getElem_cons_succ, List.getElem_cons_zero, List.setIfInBounds_toArray, List.set_cons_zero, List.set_cons_succ]
          refine wpAnyH_ready (rs := [23]) (by kernel_rfl) (by simp) ?_
          refine AllReadyH.cons rfl (fun K9 hK9 => ?_) AllReadyH.nil
          refine step_append_lies _ ?_ (.tmp 44) (.tmp 65) 24 ?_ (w2.heap.size + 1) 51 iA (.agg #[.string ⟨#[]⟩, .bool false, .string ⟨#[]⟩, .string ⟨#[]⟩, .string ⟨#[]⟩]) 5 72 Tryz.underlying24 hi hzA0 hzA1 hzA2 rfl (by decide) (.slice a1 g.affixes.length c1) g.affixes.length (g.affixes.flatMap affL) ?_ (own_below HG3.out.aff (one_belowS w3 _)) ⟨w3.heap.size, 0, none⟩ 1 1 (affL ⟨ws[1], fb, p3, p4, p5⟩) ?_ rfl (new_cells w3 _ _ _ rfl) affL_one (by decide) (by unfold maxLen; omega) (by omega) hBa _ rfl ?_; rfl; rfl; rfl; rfl
          intro gn cap w6 hown6 hgr6 hloc6 hlt6
          obtain ⟨HGn, HKn, hcf, hgn⟩ := HG3.out.affix (one_belowS w3 _) hB3 ⟨ws[1], fb, p3, p4, p5⟩ HLim.out gn cap hown6 hgr6 hloc6
          have hfr : ∀ k, k < w3.heap.size → some k ≠ (Value.slice a1 g.affixes.length c1).ownBlock → w6.heap[k]? = w3.heap[k]? := fun k hk hne => (hgr6.block k (Nat.lt_of_lt_of_le hk (one_belowS w3 _).size) hne).trans ((one_belowS w3 _).block k hk)
          refine hK9.out _ _ (⟨cell_of_sameR (hfr b0 hb0lt hb0n) hc1, cell_of_sameR (hfr b0 hb0lt hb0n) hc2, cell_of_sameR (hfr b0 hb0lt hb0n) hc3, cell_of_sameR (hfr b0 hb0lt hb0n) hc4, cell_of_sameR (hfr b0 hb0lt hb0n) hc5⟩) (fun hHeld7 => ?_)
          clear hK9 K9
          try simp only [Act.put, List.getElem_toArray, List.getElem_cons_succ, List.getElem_cons_zero, List.setIfInBounds_toArray, List.set_cons_zero, List.set_cons_succ]
          refine wpAnyH_take (i := 24) (v := ?v19) rfl (by kernel_rfl) (by kernel_rfl) (by kernel_rfl) (fun _ _ _ h => h) (Or.inl ⟨by kernel_rfl, ?hy19⟩) (by assumption) ?_
          case hy19 => (intro w9 hS9; (try dsimp only at hS9); go_simp; (try with_reducible rfl))
          try simp only [Act.put, List.getElem_toArray, List.getElem_cons_succ, List.getElem_cons_zero, List.setIfInBounds_toArray, List.set_cons_zero, List.set_cons_succ]
          refine wpAnyH_ready (rs := [25]) (by kernel_rfl) (by simp) ?_
          refine AllReadyH.cons rfl (fun K9 hK9 => ?_) AllReadyH.nil
          rw [if_pos (by rfl)]
          go_simp
          refine hK9.out _ _ (⟨(cell_setR (Ne.symm hb0gb) (cell_of_sameR (hfr b0 hb0lt hb0n) hc1)), (cell_setR (Ne.symm hb0gb) (cell_of_sameR (hfr b0 hb0lt hb0n) hc2)), (cell_setR (Ne.symm hb0gb) (cell_of_sameR (hfr b0 hb0lt hb0n) hc3)), (cell_setR (Ne.symm hb0gb) (cell_of_sameR (hfr b0 hb0lt hb0n) hc4)), (cell_setR (Ne.symm hb0gb) (cell_of_sameR (hfr b0 hb0lt hb0n) hc5))⟩) (fun hHeld8 => ?_)
          clear hK9 K9
          try simp only [Act.put, List.getElem_toArray, List.getElem_cons_succ, List.getElem_cons_zero, List.setIfInBounds_toArray, List.set_cons_zero, List.set_cons_succ]
          refine wpAnyH_done (by kernel_rfl) ?_ _
          have HF4 : Hid (foldG implLine emptyG (ls.take (j + 1)) = some ⟨g.affixes ++ [⟨ws[1], fb, p3, p4, p5⟩], g.stems⟩) := Lib.hid (by rw [HFn.out, HS.out])
          have HG4 := Lib.hid HGn
          have HK4 := Lib.hid (HK3.out.trans HKn)
          clear HGn HKn
          go_wp2
          go_roundw
          case rel => exact ⟨j + 1, _, _, _, _, _, by omega, by go_num, HF4, HG4, HK4⟩
          case measure => simp [intOf]; omega
        · rw [if_pos (by rfl)]
          go_wp2_with (go_at_call 27; refine (undashed_is HP.out.1 _).mono ?_; rintro e w13 ⟨rfl, rfl⟩)
          refine hK9.out _ _ (by assumption) (fun hHeld2 => ?_)
          clear hK9 K9
          try simp only [Act.put, List.getElem_toArray, List.getElem_cons_succ, List.getElem_cons_zero, List.setIfInBounds_toArray, List.set_cons_zero, List.set_cons_succ]
          refine wpAnyH_ready (rs := [1, 16]) (by kernel_rfl) (by simp) ?_
          refine AllReadyH.cons rfl (fun K9 hK9 => ?_) (AllReadyH.cons rfl (fun K9 hK9 => ?_) (AllReadyH.nil))
          · rw [if_pos (by rfl)]
            go_simp
            refine hK9.out _ _ (by assumption) (fun hHeld3 => ?_)
            clear hK9 K9
            try simp only [Act.put, List.getElem_toArray, List.getElem_cons_succ, List.getElem_cons_zero, List.setIfInBounds_toArray, List.set_cons_zero, List.set_cons_succ]
            refine wpAnyH_ready (rs := [16]) (by kernel_rfl) (by simp) ?_
            refine AllReadyH.cons rfl (fun K9 hK9 => ?_) AllReadyH.nil
            rw [if_pos (by rfl)]
            go_wp2_with (go_at_call 27; refine (undashed_is HP.out.2.1 _).mono ?_; rintro e w14 ⟨rfl, rfl⟩)
            refine hK9.out _ _ (by assumption) (fun hHeld4 => ?_)
            clear hK9 K9
            try simp only [Act.put, List.getElem_toArray, List.getElem_cons_succ, List.getElem_cons_zero, List.setIfInBounds_toArray, List.set_cons_zero, List.set_cons_succ]
            refine wpAnyH_ready (rs := [20]) (by kernel_rfl) (by simp) ?_
            refine AllReadyH.cons rfl (fun K9 hK9 => ?_) AllReadyH.nil
            rw [if_pos (by rfl)]
            go_wp2_with (go_at_call 27; refine (undashed_is HP.out.2.2 _).mono ?_; rintro e w15 ⟨rfl, rfl⟩)
            refine hK9.out _ _ (by assumption) (fun hHeld5 => ?_)
            clear hK9 K9
            try simp only [Act.put, List.getElem_toArray, List.getElem_cons_succ, List.getElem_cons_zero, List.setIfInBounds_toArray, List.set_cons_zero, List.set_cons_succ]
            refine wpAnyH_take (i := 21) (v := ?v20) rfl (by kernel_rfl) (by kernel_rfl) (by kernel_rfl) (fun _ _ _ h => h) (Or.inl ⟨by kernel_rfl, ?hy20⟩) (by assumption) ?_
            case hy20 => (intro w9 hS9; (try dsimp only at hS9); go_simp; (try with_reducible rfl))
            try simp only [Act.put, List.getElem_toArray, List.getElem_cons_succ, List.getElem_cons_zero, List.setIfInBounds_toArray, List.set_cons_zero, List.set_cons_succ]
            refine wpAnyH_ready (rs := [22]) (by kernel_rfl) (by simp) ?_
            refine AllReadyH.cons rfl (fun K9 hK9 => ?_) AllReadyH.nil
            rw [if_pos (by rfl)]
            go_simp
            refine hK9.out _ _ (⟨cell_alloc _ hc1, cell_alloc _ hc2, cell_alloc _ hc3, cell_alloc _ hc4, cell_alloc _ hc5⟩) (fun hHeld6 => ?_)
            clear hK9 K9
            try simp only [Act.put, List.getElem_toArray, List.getElem_cons_succ, List.getElem_cons_zero, List.setIfInBounds_toArray, List.set_cons_zero, List.set_cons_succ]
            refine wpAnyH_ready (rs := [23]) (by kernel_rfl) (by simp) ?_
            refine AllReadyH.cons rfl (fun K9 hK9 => ?_) AllReadyH.nil
            refine step_append_lies _ ?_ (.tmp 44) (.tmp 65) 24 ?_ (w2.heap.size + 1) 51 iA (.agg #[.string ⟨#[]⟩, .bool false, .string ⟨#[]⟩, .string ⟨#[]⟩, .string ⟨#[]⟩]) 5 72 Tryz.underlying24 hi hzA0 hzA1 hzA2 rfl (by decide) (.slice a1 g.affixes.length c1) g.affixes.length (g.affixes.flatMap affL) ?_ (own_below HG3.out.aff (one_belowS w3 _)) ⟨w3.heap.size, 0, none⟩ 1 1 (affL ⟨ws[1], fb, p3, p4, p5⟩) ?_ rfl (new_cells w3 _ _ _ rfl) affL_one (by decide) (by unfold maxLen; omega) (by omega) hBa _ rfl ?_; rfl; rfl; rfl; rfl
            intro gn cap w6 hown6 hgr6 hloc6 hlt6
            obtain ⟨HGn, HKn, hcf, hgn⟩ := HG3.out.affix (one_belowS w3 _) hB3 ⟨ws[1], fb, p3, p4, p5⟩ HLim.out gn cap hown6 hgr6 hloc6
            have hfr : ∀ k, k < w3.heap.size → some k ≠ (Value.slice a1 g.affixes.length c1).ownBlock → w6.heap[k]? = w3.heap[k]? := fun k hk hne => (hgr6.block k (Nat.lt_of_lt_of_le hk (one_belowS w3 _).size) hne).trans ((one_belowS w3 _).block k hk)
            refine hK9.out _ _ (⟨cell_of_sameR (hfr b0 hb0lt hb0n) hc1, cell_of_sameR (hfr b0 hb0lt hb0n) hc2, cell_of_sameR (hfr b0 hb0lt hb0n) hc3, cell_of_sameR (hfr b0 hb0lt hb0n) hc4, cell_of_sameR (hfr b0 hb0lt hb0n) hc5⟩) (fun hHeld7 => ?_)
            clear hK9 K9
            try simp only [Act.put, List.getElem_toArray, List.getElem_cons_succ, List.getElem_cons_zero, List.setIfInBounds_toArray, List.set_cons_zero, List.set_cons_succ]
            refine wpAnyH_take (i := 24) (v := ?v21) rfl (by kernel_rfl) (by kernel_rfl) (by kernel_rfl) (fun _ _ _ h => h) (Or.inl ⟨by kernel_rfl, ?hy21⟩) (by assumption) ?_
            case hy21 => (intro w9 hS9; (try dsimp only at hS9); go_simp; (try with_reducible rfl))
            try simp only [Act.put, List.getElem_toArray, List.getElem_cons_succ, List.getElem_cons_zero, List.setIfInBounds_toArray, List.set_cons_zero, List.set_cons_succ]
            refine wpAnyH_ready (rs := [25]) (by kernel_rfl) (by simp) ?_
            refine AllReadyH.cons rfl (fun K9 hK9 => ?_) AllReadyH.nil
            rw [if_pos (by rfl)]
            go_simp
            refine hK9.out _ _ (⟨(cell_setR (Ne.symm hb0gb) (cell_of_sameR (hfr b0 hb0lt hb0n) hc1)), (cell_setR (Ne.symm hb0gb) (cell_of_sameR (hfr b0 hb0lt hb0n) hc2)), (cell_setR (Ne.symm hb0gb) (cell_of_sameR (hfr b0 hb0lt hb0n) hc3)), (cell_setR (Ne.symm hb0gb) (cell_of_sameR (hfr b0 hb0lt hb0n) hc4)), (cell_setR (Ne.symm hb0gb) (cell_of_sameR (hfr b0 hb0lt hb0n) hc5))⟩) (fun hHeld8 => ?_)
            clear hK9 K9
            try simp only [Act.put, List.getElem_toArray, List.getElem_cons_succ, List.getElem_cons_zero, List.setIfInBounds_toArray, List.set_cons_zero, List.set_cons_succ]
            refine wpAnyH_done (by kernel_rfl) ?_ _
            have HF4 : Hid (foldG implLine emptyG (ls.take (j + 1)) = some ⟨g.affixes ++ [⟨ws[1], fb, p3, p4, p5⟩], g.stems⟩) := Lib.hid (by rw [HFn.out, HS.out])
            have HG4 := Lib.hid HGn
            have HK4 := Lib.hid (HK3.out.trans HKn)
            clear HGn HKn
            go_wp2
            go_roundw
            case rel => exact ⟨j + 1, _, _, _, _, _, by omega, by go_num, HF4, HG4, HK4⟩
            case measure => simp [intOf]; omega
          · rw [if_pos (by rfl)]
            go_wp2_with (go_at_call 27; refine (undashed_is HP.out.2.1 _).mono ?_; rintro e w14 ⟨rfl, rfl⟩)
            refine hK9.out _ _ (by assumption) (fun hHeld3 => ?_)
            clear hK9 K9
            try simp only [Act.put, List.getElem_toArray, List.getElem_cons_succ, List.getElem_cons_zero, List.setIfInBounds_toArray, List.set_cons_zero, List.set_cons_succ]
            refine wpAnyH_ready (rs := [1, 20]) (by kernel_rfl) (by simp) ?_
            refine AllReadyH.cons rfl (fun K9 hK9 => ?_) (AllReadyH.cons rfl (fun K9 hK9 => ?_) (AllReadyH.nil))
            · rw [if_pos (by rfl)]
              go_simp
              refine hK9.out _ _ (by assumption) (fun hHeld4 => ?_)
              clear hK9 K9
              try simp only [Act.put, List.getElem_toArray, List.getElem_cons_succ, List.getElem_cons_zero, List.setIfInBounds_toArray, List.set_cons_zero, List.set_cons_succ]
              refine wpAnyH_ready (rs := [20]) (by kernel_rfl) (by simp) ?_
              refine AllReadyH.cons rfl (fun K9 hK9 => ?_) AllReadyH.nil
              rw [if_pos (by rfl)]
              go_wp2_with (go_at_call 27; refine (undashed_is HP.out.2.2 _).mono ?_; rintro e w15 ⟨rfl, rfl⟩)
              refine hK9.out _ _ (by assumption) (fun hHeld5 => ?_)
              clear hK9 K9
              try simp only [Act.put, List.getElem_toArray, List.getElem_cons_succ, List.getElem_cons_zero, List.setIfInBounds_toArray, List.set_cons_zero, List.set_cons_succ]
              refine wpAnyH_take (i := 21) (v := ?v22) rfl (by kernel_rfl) (by kernel_rfl) (by kernel_rfl) (fun _ _ _ h => h) (Or.inl ⟨by kernel_rfl, ?hy22⟩) (by assumption) ?_
              case hy22 => (intro w9 hS9; (try dsimp only at hS9); go_simp; (try with_reducible rfl))
              try simp only [Act.put, List.getElem_toArray, List.getElem_cons_succ, List.getElem_cons_zero, List.setIfInBounds_toArray, List.set_cons_zero, List.set_cons_succ]
              refine wpAnyH_ready (rs := [22]) (by kernel_rfl) (by simp) ?_
              refine AllReadyH.cons rfl (fun K9 hK9 => ?_) AllReadyH.nil
              rw [if_pos (by rfl)]
              go_simp
              refine hK9.out _ _ (⟨cell_alloc _ hc1, cell_alloc _ hc2, cell_alloc _ hc3, cell_alloc _ hc4, cell_alloc _ hc5⟩) (fun hHeld6 => ?_)
              clear hK9 K9
              try simp only [Act.put, List.getElem_toArray, List.getElem_cons_succ, List.getElem_cons_zero, List.setIfInBounds_toArray, List.set_cons_zero, List.set_cons_succ]
              refine wpAnyH_ready (rs := [23]) (by kernel_rfl) (by simp) ?_
              refine AllReadyH.cons rfl (fun K9 hK9 => ?_) AllReadyH.nil
              refine step_append_lies _ ?_ (.tmp 44) (.tmp 65) 24 ?_ (w2.heap.size + 1) 51 iA (.agg #[.string ⟨#[]⟩, .bool false, .string ⟨#[]⟩, .string ⟨#[]⟩, .string ⟨#[]⟩]) 5 72 Tryz.underlying24 hi hzA0 hzA1 hzA2 rfl (by decide) (.slice a1 g.affixes.length c1) g.affixes.length (g.affixes.flatMap affL) ?_ (own_below HG3.out.aff (one_belowS w3 _)) ⟨w3.heap.size, 0, none⟩ 1 1 (affL ⟨ws[1], fb, p3, p4, p5⟩) ?_ rfl (new_cells w3 _ _ _ rfl) affL_one (by decide) (by unfold maxLen; omega) (by omega) hBa _ rfl ?_; rfl; rfl; rfl; rfl
              intro gn cap w6 hown6 hgr6 hloc6 hlt6
              obtain ⟨HGn, HKn, hcf, hgn⟩ := HG3.out.affix (one_belowS w3 _) hB3 ⟨ws[1], fb, p3, p4, p5⟩ HLim.out gn cap hown6 hgr6 hloc6
              have hfr : ∀ k, k < w3.heap.size → some k ≠ (Value.slice a1 g.affixes.length c1).ownBlock → w6.heap[k]? = w3.heap[k]? := fun k hk hne => (hgr6.block k (Nat.lt_of_lt_of_le hk (one_belowS w3 _).size) hne).trans ((one_belowS w3 _).block k hk)
              refine hK9.out _ _ (⟨cell_of_sameR (hfr b0 hb0lt hb0n) hc1, cell_of_sameR (hfr b0 hb0lt hb0n) hc2, cell_of_sameR (hfr b0 hb0lt hb0n) hc3, cell_of_sameR (hfr b0 hb0lt hb0n) hc4, cell_of_sameR (hfr b0 hb0lt hb0n) hc5⟩) (fun hHeld7 => ?_)
              clear hK9 K9
              try simp only [Act.put, List.getElem_toArray, List.getElem_cons_succ, List.getElem_cons_zero, List.setIfInBounds_toArray, List.set_cons_zero, List.set_cons_succ]
              refine wpAnyH_take (i := 24) (v := ?v23) rfl (by kernel_rfl) (by kernel_rfl) (by kernel_rfl) (fun _ _ _ h => h) (Or.inl ⟨by kernel_rfl, ?hy23⟩) (by assumption) ?_
              case hy23 => (intro w9 hS9; (try dsimp only at hS9); go_simp; (try with_reducible rfl))
              try simp only [Act.put, List.getElem_toArray, List.getElem_cons_succ, List.getElem_cons_zero, List.setIfInBounds_toArray, List.set_cons_zero, List.set_cons_succ]
              refine wpAnyH_ready (rs := [25]) (by kernel_rfl) (by simp) ?_
              refine AllReadyH.cons rfl (fun K9 hK9 => ?_) AllReadyH.nil
              rw [if_pos (by rfl)]
              go_simp
              refine hK9.out _ _ (⟨(cell_setR (Ne.symm hb0gb) (cell_of_sameR (hfr b0 hb0lt hb0n) hc1)), (cell_setR (Ne.symm hb0gb) (cell_of_sameR (hfr b0 hb0lt hb0n) hc2)), (cell_setR (Ne.symm hb0gb) (cell_of_sameR (hfr b0 hb0lt hb0n) hc3)), (cell_setR (Ne.symm hb0gb) (cell_of_sameR (hfr b0 hb0lt hb0n) hc4)), (cell_setR (Ne.symm hb0gb) (cell_of_sameR (hfr b0 hb0lt hb0n) hc5))⟩) (fun hHeld8 => ?_)
              clear hK9 K9
              try simp only [Act.put, List.getElem_toArray, List.getElem_cons_succ, List.getElem_cons_zero, List.setIfInBounds_toArray, List.set_cons_zero, List.set_cons_succ]
              refine wpAnyH_done (by kernel_rfl) ?_ _
              have HF4 : Hid (foldG implLine emptyG (ls.take (j + 1)) = some ⟨g.affixes ++ [⟨ws[1], fb, p3, p4, p5⟩], g.stems⟩) := Lib.hid (by rw [HFn.out, HS.out])
              have HG4 := Lib.hid HGn
              have HK4 := Lib.hid (HK3.out.trans HKn)
              clear HGn HKn
              go_wp2
              go_roundw
              case rel => exact ⟨j + 1, _, _, _, _, _, by omega, by go_num, HF4, HG4, HK4⟩
              case measure => simp [intOf]; omega
            · rw [if_pos (by rfl)]
              go_wp2_with (go_at_call 27; refine (undashed_is HP.out.2.2 _).mono ?_; rintro e w15 ⟨rfl, rfl⟩)
              refine hK9.out _ _ (by assumption) (fun hHeld4 => ?_)
              clear hK9 K9
              try simp only [Act.put, List.getElem_toArray, List.getElem_cons_succ, List.getElem_cons_zero, List.setIfInBounds_toArray, List.set_cons_zero, List.set_cons_succ]
              refine wpAnyH_take (i := 21) (v := ?v24) rfl (by kernel_rfl) (by kernel_rfl) (by kernel_rfl) (fun _ _ _ h => h) (Or.inl ⟨by kernel_rfl, ?hy24⟩) (by assumption) ?_
              case hy24 => (intro w9 hS9; (try dsimp only at hS9); go_simp; (try with_reducible rfl))
              try simp only [Act.put, List.getElem_toArray, List.getElem_cons_succ, List.getElem_cons_zero, List.setIfInBounds_toArray, List.set_cons_zero, List.set_cons_succ]
              refine wpAnyH_ready (rs := [1, 22]) (by kernel_rfl) (by simp) ?_
              refine AllReadyH.cons rfl (fun K9 hK9 => ?_) (AllReadyH.cons rfl (fun K9 hK9 => ?_) (AllReadyH.nil))
              · rw [if_pos (by rfl)]
                go_simp
                refine hK9.out _ _ (by assumption) (fun hHeld5 => ?_)
                clear hK9 K9
                try simp only [Act.put, List.getElem_toArray, List.getElem_cons_succ, List.getElem_cons_zero, List.setIfInBounds_toArray, List.set_cons_zero, List.set_cons_succ]
                refine wpAnyH_ready (rs := [22]) (by kernel_rfl) (by simp) ?_
                refine AllReadyH.cons rfl (fun K9 hK9 => ?_) AllReadyH.nil
                rw [if_pos (by rfl)]
                go_simp
                refine hK9.out _ _ (⟨cell_alloc _ hc1, cell_alloc _ hc2, cell_alloc _ hc3, cell_alloc _ hc4, cell_alloc _ hc5⟩) (fun hHeld6 => ?_)
                clear hK9 K9
                try simp only [Act.put, List.getElem_toArray, List.getElem_cons_succ, List.getElem_cons_zero, List.setIfInBounds_toArray, List.set_cons_zero, List.set_cons_succ]
                refine wpAnyH_ready (rs := [23]) (by kernel_rfl) (by simp) ?_
                refine AllReadyH.cons rfl (fun K9 hK9 => ?_) AllReadyH.nil
                refine step_append_lies _ ?_ (.tmp 44) (.tmp 65) 24 ?_ (w2.heap.size + 1) 51 iA (.agg #[.string ⟨#[]⟩, .bool false, .string ⟨#[]⟩, .string ⟨#[]⟩, .string ⟨#[]⟩]) 5 72 Tryz.underlying24 hi hzA0 hzA1 hzA2 rfl (by decide) (.slice a1 g.affixes.length c1) g.affixes.length (g.affixes.flatMap affL) ?_ (own_below HG3.out.aff (one_belowS w3 _)) ⟨w3.heap.size, 0, none⟩ 1 1 (affL ⟨ws[1], fb, p3, p4, p5⟩) ?_ rfl (new_cells w3 _ _ _ rfl) affL_one (by decide) (by unfold maxLen; omega) (by omega) hBa _ rfl ?_; rfl; rfl; rfl; rfl
                intro gn cap w6 hown6 hgr6 hloc6 hlt6
                obtain ⟨HGn, HKn, hcf, hgn⟩ := HG3.out.affix (one_belowS w3 _) hB3 ⟨ws[1], fb, p3, p4, p5⟩ HLim.out gn cap hown6 hgr6 hloc6
                have hfr : ∀ k, k < w3.heap.size → some k ≠ (Value.slice a1 g.affixes.length c1).ownBlock → w6.heap[k]? = w3.heap[k]? := fun k hk hne => (hgr6.block k (Nat.lt_of_lt_of_le hk (one_belowS w3 _).size) hne).trans ((one_belowS w3 _).block k hk)
                refine hK9.out _ _ (⟨cell_of_sameR (hfr b0 hb0lt hb0n) hc1, cell_of_sameR (hfr b0 hb0lt hb0n) hc2, cell_of_sameR (hfr b0 hb0lt hb0n) hc3, cell_of_sameR (hfr b0 hb0lt hb0n) hc4, cell_of_sameR (hfr b0 hb0lt hb0n) hc5⟩) (fun hHeld7 => ?_)
                clear hK9 K9
                try simp only [Act.put, List.getElem_toArray, List.getElem_cons_succ, List.getElem_cons_zero, List.setIfInBounds_toArray, List.set_cons_zero, List.set_cons_succ]
                refine wpAnyH_take (i := 24) (v := ?v25) rfl (by kernel_rfl) (by kernel_rfl) (by kernel_rfl) (fun _ _ _ h => h) (Or.inl ⟨by kernel_rfl, ?hy25⟩) (by assumption) ?_
                case hy25 => (intro w9 hS9; (try dsimp only at hS9); go_simp; (try with_reducible rfl))
                try simp only [Act.put, List.getElem_toArray, List.getElem_cons_succ, List.getElem_cons_zero, List.setIfInBounds_toArray, List.set_cons_zero, List.set_cons_succ]
                refine wpAnyH_ready (rs := [25]) (by kernel_rfl) (by simp) ?_
                refine AllReadyH.cons rfl (fun K9 hK9 => ?_) AllReadyH.nil
                rw [if_pos (by rfl)]
                go_simp
                refine hK9.out _ _ (⟨(cell_setR (Ne.symm hb0gb) (cell_of_sameR (hfr b0 hb0lt hb0n) hc1)), (cell_setR (Ne.symm hb0gb) (cell_of_sameR (hfr b0 hb0lt hb0n) hc2)), (cell_setR (Ne.symm hb0gb) (cell_of_sameR (hfr b0 hb0lt hb0n) hc3)), (cell_setR (Ne.symm hb0gb) (cell_of_sameR (hfr b0 hb0lt hb0n) hc4)), (cell_setR (Ne.symm hb0gb) (cell_of_sameR (hfr b0 hb0lt hb0n) hc5))⟩) (fun hHeld8 => ?_)
                clear hK9 K9
                try simp only [Act.put, List.getElem_toArray, List.getElem_cons_succ, List.getElem_cons_zero, List.setIfInBounds_toArray, List.set_cons_zero, List.set_cons_succ]
                refine wpAnyH_done (by kernel_rfl) ?_ _
                have HF4 : Hid (foldG implLine emptyG (ls.take (j + 1)) = some ⟨g.affixes ++ [⟨ws[1], fb, p3, p4, p5⟩], g.stems⟩) := Lib.hid (by rw [HFn.out, HS.out])
                have HG4 := Lib.hid HGn
                have HK4 := Lib.hid (HK3.out.trans HKn)
                clear HGn HKn
                go_wp2
                go_roundw
                case rel => exact ⟨j + 1, _, _, _, _, _, by omega, by go_num, HF4, HG4, HK4⟩
                case measure => simp [intOf]; omega
              · rw [if_pos (by rfl)]
                go_simp
                refine hK9.out _ _ (⟨cell_alloc _ hc1, cell_alloc _ hc2, cell_alloc _ hc3, cell_alloc _ hc4, cell_alloc _ hc5⟩) (fun hHeld5 => ?_)
                clear hK9 K9
                try simp only [Act.put, List.getElem_toArray, List.getElem_cons_succ, List.getElem_cons_zero, List.setIfInBounds_toArray, List.set_cons_zero, List.set_cons_succ]
                refine wpAnyH_ready (rs := [1]) (by kernel_rfl) (by simp) ?_
                refine AllReadyH.cons rfl (fun K9 hK9 => ?_) AllReadyH.nil
                rw [if_pos (by rfl)]
                go_simp
                refine hK9.out _ _ (by assumption) (fun hHeld6 => ?_)
                clear hK9 K9
                try simp only [Act.put, List.getElem_toArray, List.getElem_cons_succ, List.getElem_cons_zero, List.setIfInBounds_toArray, List.set_cons_zero, List.set_cons_succ]
                refine wpAnyH_ready (rs := [23]) (by kernel_rfl) (by simp) ?_
                refine AllReadyH.cons rfl (fun K9 hK9 => ?_) AllReadyH.nil
                refine step_append_lies _ ?_ (.tmp 44) (.tmp 65) 24 ?_ (w2.heap.size + 1) 51 iA (.agg #[.string ⟨#[]⟩, .bool false, .string ⟨#[]⟩, .string ⟨#[]⟩, .string ⟨#[]⟩]) 5 72 Tryz.underlying24 hi hzA0 hzA1 hzA2 rfl (by decide) (.slice a1 g.affixes.length c1) g.affixes.length (g.affixes.flatMap affL) ?_ (own_below HG3.out.aff (one_belowS w3 _)) ⟨w3.heap.size, 0, none⟩ 1 1 (affL ⟨ws[1], fb, p3, p4, p5⟩) ?_ rfl (new_cells w3 _ _ _ rfl) affL_one (by decide) (by unfold maxLen; omega) (by omega) hBa _ rfl ?_; rfl; rfl; rfl; rfl
                intro gn cap w6 hown6 hgr6 hloc6 hlt6
                obtain ⟨HGn, HKn, hcf, hgn⟩ := HG3.out.affix (one_belowS w3 _) hB3 ⟨ws[1], fb, p3, p4, p5⟩ HLim.out gn cap hown6 hgr6 hloc6
                have hfr : ∀ k, k < w3.heap.size → some k ≠ (Value.slice a1 g.affixes.length c1).ownBlock → w6.heap[k]? = w3.heap[k]? := fun k hk hne => (hgr6.block k (Nat.lt_of_lt_of_le hk (one_belowS w3 _).size) hne).trans ((one_belowS w3 _).block k hk)
                refine hK9.out _ _ (⟨cell_of_sameR (hfr b0 hb0lt hb0n) hc1, cell_of_sameR (hfr b0 hb0lt hb0n) hc2, cell_of_sameR (hfr b0 hb0lt hb0n) hc3, cell_of_sameR (hfr b0 hb0lt hb0n) hc4, cell_of_sameR (hfr b0 hb0lt hb0n) hc5⟩) (fun hHeld7 => ?_)
                clear hK9 K9
                try simp only [Act.put, List.getElem_toArray, List.getElem_cons_succ, List.getElem_cons_zero, List.setIfInBounds_toArray, List.set_cons_zero, List.set_cons_succ]
                refine wpAnyH_take (i := 24) (v := ?v26) rfl (by kernel_rfl) (by kernel_rfl) (by kernel_rfl) (fun _ _ _ h => h) (Or.inl ⟨by kernel_rfl, ?hy26⟩) (by assumption) ?_
                case hy26 => (intro w9 hS9; (try dsimp only at hS9); go_simp; (try with_reducible rfl))
                try simp only [Act.put, List.getElem_toArray, List.getElem_cons_succ, List.getElem_cons_zero, List.setIfInBounds_toArray, List.set_cons_zero, List.set_cons_succ]
                refine wpAnyH_ready (rs := [25]) (by kernel_rfl) (by simp) ?_
                refine AllReadyH.cons rfl (fun K9 hK9 => ?_) AllReadyH.nil
                rw [if_pos (by rfl)]
                go_simp
                refine hK9.out _ _ (⟨(cell_setR (Ne.symm hb0gb) (cell_of_sameR (hfr b0 hb0lt hb0n) hc1)), (cell_setR (Ne.symm hb0gb) (cell_of_sameR (hfr b0 hb0lt hb0n) hc2)), (cell_setR (Ne.symm hb0gb) (cell_of_sameR (hfr b0 hb0lt hb0n) hc3)), (cell_setR (Ne.symm hb0gb) (cell_of_sameR (hfr b0 hb0lt hb0n) hc4)), (cell_setR (Ne.symm hb0gb) (cell_of_sameR (hfr b0 hb0lt hb0n) hc5))⟩) (fun hHeld8 => ?_)
                clear hK9 K9
                try simp only [Act.put, List.getElem_toArray, List.getElem_cons_succ, List.getElem_cons_zero, List.setIfInBounds_toArray, List.set_cons_zero, List.set_cons_succ]
                refine wpAnyH_done (by kernel_rfl) ?_ _
                have HF4 : Hid (foldG implLine emptyG (ls.take (j + 1)) = some ⟨g.affixes ++ [⟨ws[1], fb, p3, p4, p5⟩], g.stems⟩) := Lib.hid (by rw [HFn.out, HS.out])
                have HG4 := Lib.hid HGn
                have HK4 := Lib.hid (HK3.out.trans HKn)
                clear HGn HKn
                go_wp2
                go_roundw
                case rel => exact ⟨j + 1, _, _, _, _, _, by omega, by go_num, HF4, HG4, HK4⟩
                case measure => simp [intOf]; omega
      have HA := Lib.hid hA
      have hnA : implLine g ws = if isB (atW ws 0) stmKey = true ∧ 2 ≤ ws.length then some ⟨g.affixes, g.stems ++ [⟨atW ws 1, ws.drop 2⟩]⟩ else none := by
        unfold implLine
        rw [if_neg (fun h => hA ⟨by rw [← e0]; exact h.1, h.2⟩)]
      have HNA := Lib.hid hnA
      clear hA hnA
      by_cases hS : (ws[0].toList == stmKey) = true ∧ 2 ≤ ws.length
      · obtain ⟨h1, h2⟩ := hS
        have hnotaff : (ws[0].toList == [97, 102, 102, 105, 120]) = false := by
          have h3 : ws[0].toList = [115, 116, 101, 109] := by unfold stmKey at h1; simpa using h1
          rw [h3]; decide
        have HS : Hid (implLine g ws = some ⟨g.affixes, g.stems ++ [⟨ws[1], ws.drop 2⟩]⟩) := Lib.hid (by rw [HNA.out, if_pos ⟨by rw [e0]; exact h1, h2⟩, atW_at (show 1 < ws.length by omega)])
        unfold stmKey at h1
        obtain ⟨b1', o1', e1, hc1, -⟩ := HC.out 1 (by omega)
        cases e1
        have h1I : (1 : Int) < (ws.length : Int) := by omega
        have h2I : (2 : Int) ≤ (ws.length : Int) := by omega
        have hcI : (ws.length : Int) ≤ (c : Int) := by omega
        have h2c : (2 : Int) ≤ (c : Int) := by omega
        obtain ⟨iS, hi, hzA0, hzA1, hzA2⟩ := info_parts infoStmS
        obtain ⟨bx, hbx, hux⟩ := HW.out.exact b0
        have hbx0 : bx = b0 := by
          obtain ⟨g9, o9, c9, e9, h91, h92⟩ := hux.1.own (by omega)
          cases e9
          omega
        subst hbx0
        have hDr := hux.dropN 2 h2
        have hdl : (ws.drop 2).length = ws.length - 2 := List.length_drop
        by_cases hc2 : c = 2
        · have HU3 : Hid (StrsW w3 bx (bx + 1) (.slice (some ⟨bx, o0, none⟩) 0 0) (ws.drop 2)) := Lib.hid (by
            subst hc2
            have hn0 : ws.drop 2 = [] := List.eq_nil_of_length_eq_zero (by omega)
            rw [hn0]
            exact ⟨⟨rfl, some ⟨bx, o0, none⟩, 0, rfl, Nat.le_refl _, by unfold maxLen; omega, .inl rfl⟩, by simp⟩)
          have hBs : w2.heap.size + 1 ≤ (w3.alloc (.cells #[.string ws[1], .slice (some ⟨bx, o0, none⟩) 0 0] 59)).drew.heap.size := Nat.le_trans hB3 (one_belowS w3 _).size
          have hw1a := cell_alloc (.cells #[.string ws[1], .slice (some ⟨bx, o0, none⟩) 0 0] 59) hw1
          subst hc2
          clear hDr hux hbx hdl
          go_upto_region 13 with fail
          refine wp_region_held_drew (S := (fun w' => w'.cell? ⟨bx, o0 + 1, none⟩ = some (.string ws[1]))) (by kernel_rfl) ?_ (fun hHeld => ?_)
          · exact hc1
          refine wpAnyH_take (i := 0) (v := ?v27) rfl (by kernel_rfl) (by kernel_rfl) (by kernel_rfl) (fun _ _ _ h => h) (Or.inl ⟨by kernel_rfl, ?hy27⟩) (by assumption) ?_
          case hy27 => (intro w9 hS9; (try dsimp only at hS9); go_simp; (try with_reducible rfl))
          try simp only [Act.put, List.getElem_toArray, List.getElem_cons_succ, List.getElem_cons_zero, List.setIfInBounds_toArray, List.set_cons_zero, List.set_cons_succ]
          refine wpAnyH_take (i := 2) (v := ?v28) rfl (by kernel_rfl) (by kernel_rfl) (by kernel_rfl) (fun _ _ _ h => h) (Or.inl ⟨by kernel_rfl, ?hy28⟩) (by assumption) ?_
          case hy28 => (intro w9 hS9; (try dsimp only at hS9); go_simp; (try with_reducible rfl))
          try simp only [Act.put, List.getElem_toArray, List.getElem_cons_succ, List.getElem_cons_zero, List.setIfInBounds_toArray, List.set_cons_zero, List.set_cons_succ]
          refine wpAnyH_take (i := 3) (v := ?v29) rfl (by kernel_rfl) (by kernel_rfl) (by kernel_rfl) (fun _ _ _ h => h) (Or.inl ⟨by kernel_rfl, ?hy29⟩) (by assumption) ?_
          case hy29 => (intro w9 hS9; (try dsimp only at hS9); go_simp; (try with_reducible rfl))
          try simp only [Act.put, List.getElem_toArray, List.getElem_cons_succ, List.getElem_cons_zero, List.setIfInBounds_toArray, List.set_cons_zero, List.set_cons_succ]
          refine wpAnyH_take (i := 4) (v := ?v30) rfl (by kernel_rfl) (by kernel_rfl) (by kernel_rfl) (fun _ _ _ h => h) (Or.inl ⟨by kernel_rfl, ?hy30⟩) (by assumption) ?_
          case hy30 => (intro w9 hS9; (try dsimp only at hS9); go_simp; (try with_reducible rfl))
          try simp only [Act.put, List.getElem_toArray, List.getElem_cons_succ, List.getElem_cons_zero, List.setIfInBounds_toArray, List.set_cons_zero, List.set_cons_succ]
          refine wpAnyH_take (i := 5) (v := ?v31) rfl (by kernel_rfl) (by kernel_rfl) (by kernel_rfl) (fun _ _ _ h => h) (Or.inl ⟨by kernel_rfl, ?hy31⟩) (by assumption) ?_
          case hy31 => (intro w9 hS9; (try dsimp only at hS9); go_simp; (try with_reducible rfl))
          try simp only [Act.put, List.getElem_toArray, List.getElem_cons_succ, List.getElem_cons_zero, List.setIfInBounds_toArray, List.set_cons_zero, List.set_cons_succ]
          refine wpAnyH_take (i := 6) (v := ?v32) rfl (by kernel_rfl) (by kernel_rfl) (by kernel_rfl) (fun _ _ _ h => h) (Or.inl ⟨by kernel_rfl, ?hy32⟩) (by assumption) ?_
          case hy32 => (intro w9 hS9; (try dsimp only at hS9); go_simp; (try with_reducible rfl))
          try simp only [Act.put, List.getElem_toArray, List.getElem_cons_succ, List.getElem_cons_zero, List.setIfInBounds_toArray, List.set_cons_zero, List.set_cons_succ]
          refine wpAnyH_take (i := 7) (v := ?v33) rfl (by kernel_rfl) (by kernel_rfl) (by kernel_rfl) (fun _ _ _ h => h) (Or.inl ⟨by kernel_rfl, ?hy33⟩) (by assumption) ?_
          case hy33 => (intro w9 hS9; (try dsimp only at hS9); go_simp; (try with_reducible rfl))
          try simp only [Act.put, List.getElem_toArray, List.getElem_cons_succ, List.getElem_cons_zero, List.setIfInBounds_toArray, List.set_cons_zero, List.set_cons_succ]
          refine wpAnyH_ready (rs := [1, 8]) (by kernel_rfl) (by simp) ?_
          refine AllReadyH.cons rfl (fun K9 hK9 => ?_) (AllReadyH.cons rfl (fun K9 hK9 => ?_) (AllReadyH.nil))
          · rw [if_pos (by rfl)]
            go_simp
            refine hK9.out _ _ (by assumption) (fun hHeld2 => ?_)
            clear hK9 K9
            try simp only [Act.put, List.getElem_toArray, List.getElem_cons_succ, List.getElem_cons_zero, List.setIfInBounds_toArray, List.set_cons_zero, List.set_cons_succ]
            refine wpAnyH_ready (rs := [8]) (by kernel_rfl) (by simp) ?_
            refine AllReadyH.cons rfl (fun K9 hK9 => ?_) AllReadyH.nil
            rw [if_pos (by rfl)]
            go_simp
            refine hK9.out _ _ (cell_alloc _ hc1) (fun hHeld3 => ?_)
            clear hK9 K9
            try simp only [Act.put, List.getElem_toArray, List.getElem_cons_succ, List.getElem_cons_zero, List.setIfInBounds_toArray, List.set_cons_zero, List.set_cons_succ]
            refine wpAnyH_ready (rs := [9]) (by kernel_rfl) (by simp) ?_
            refine AllReadyH.cons rfl (fun K9 hK9 => ?_) AllReadyH.nil
            refine step_append_lies _ ?_ (.tmp 79) (.tmp 86) 25 ?_ (w2.heap.size + 1) 59 iS (.agg #[.string ⟨#[]⟩, .slice none 0 0]) 2 40 Tryz.underlying25 hi hzA0 hzA1 hzA2 rfl (by decide) (.slice a2 g.stems.length c2) g.stems.length ((g.stems.zip us).flatMap stemL) ?_ (own_below HG3.out.stm (one_belowS w3 _)) ⟨w3.heap.size, 0, none⟩ 1 1 [.string ws[1], (.slice (some ⟨bx, o0, none⟩) 0 0)] ?_ rfl (new_cells w3 _ _ _ rfl) stm_oneS (by decide) (by unfold maxLen; omega) (by omega) hBs _ rfl ?_; rfl; rfl; rfl; rfl
            intro gn cap w8 hown8 hgr8 hloc8 hlt8
            obtain ⟨HGn, HKn, hcf⟩ := HG3.out.stem (one_belowS w3 _) hB3 ⟨ws[1], ws.drop 2⟩ (.slice (some ⟨bx, o0, none⟩) 0 0) bx (HSz.out _ (List.getElem_mem _)) gn cap (HU3.out.below (one_belowS w3 _)) ⟨by omega, Nat.lt_of_lt_of_le hb0lt (one_belowS w3 _).size⟩ (fun j hj => by have := (HGr.out.low j hj).2; omega) ⟨fun e => by have := (World.ownsRow.lt HGr.out.aff _ e).2; omega, fun e => by have := (World.ownsRow.lt HGr.out.stm _ e).2; omega⟩ hown8 hgr8 hloc8
            have hfr8 : w8.heap[bx]? = w3.heap[bx]? := (hgr8.block bx (Nat.lt_of_lt_of_le hb0lt (one_belowS w3 _).size) hb0n2).trans ((one_belowS w3 _).block bx hb0lt)
            refine hK9.out _ _ (cell_of_sameR hfr8 hc1) (fun hHeld4 => ?_)
            clear hK9 K9
            try simp only [Act.put, List.getElem_toArray, List.getElem_cons_succ, List.getElem_cons_zero, List.setIfInBounds_toArray, List.set_cons_zero, List.set_cons_succ]
            refine wpAnyH_take (i := 10) (v := ?v34) rfl (by kernel_rfl) (by kernel_rfl) (by kernel_rfl) (fun _ _ _ h => h) (Or.inl ⟨by kernel_rfl, ?hy34⟩) (by assumption) ?_
            case hy34 => (intro w9 hS9; (try dsimp only at hS9); go_simp; (try with_reducible rfl))
            try simp only [Act.put, List.getElem_toArray, List.getElem_cons_succ, List.getElem_cons_zero, List.setIfInBounds_toArray, List.set_cons_zero, List.set_cons_succ]
            refine wpAnyH_ready (rs := [11]) (by kernel_rfl) (by simp) ?_
            refine AllReadyH.cons rfl (fun K9 hK9 => ?_) AllReadyH.nil
            rw [if_pos (by rfl)]
            go_simp
            refine hK9.out _ _ (cell_setR (Ne.symm hb0gb) (cell_of_sameR hfr8 hc1)) (fun hHeld5 => ?_)
            clear hK9 K9
            try simp only [Act.put, List.getElem_toArray, List.getElem_cons_succ, List.getElem_cons_zero, List.setIfInBounds_toArray, List.set_cons_zero, List.set_cons_succ]
            refine wpAnyH_done (by kernel_rfl) ?_ _
            have HF4 : Hid (foldG implLine emptyG (ls.take (j + 1)) = some ⟨g.affixes, g.stems ++ [⟨ws[1], ws.drop 2⟩]⟩) := Lib.hid (by rw [HFn.out, HS.out])
            have HG4 := Lib.hid HGn
            have HK4 := Lib.hid (HK3.out.trans HKn)
            clear HGn HKn
            go_wp2
            go_roundw
            case rel => exact ⟨j + 1, _, _, _, _, _, by omega, by go_num, HF4, HG4, HK4⟩
            case measure => simp [intOf]; omega
          · rw [if_pos (by rfl)]
            go_simp
            refine hK9.out _ _ (cell_alloc _ hc1) (fun hHeld2 => ?_)
            clear hK9 K9
            try simp only [Act.put, List.getElem_toArray, List.getElem_cons_succ, List.getElem_cons_zero, List.setIfInBounds_toArray, List.set_cons_zero, List.set_cons_succ]
            refine wpAnyH_ready (rs := [1]) (by kernel_rfl) (by simp) ?_
            refine AllReadyH.cons rfl (fun K9 hK9 => ?_) AllReadyH.nil
            rw [if_pos (by rfl)]
            go_simp
            refine hK9.out _ _ (by assumption) (fun hHeld3 => ?_)
            clear hK9 K9
            try simp only [Act.put, List.getElem_toArray, List.getElem_cons_succ, List.getElem_cons_zero, List.setIfInBounds_toArray, List.set_cons_zero, List.set_cons_succ]
            refine wpAnyH_ready (rs := [9]) (by kernel_rfl) (by simp) ?_
            refine AllReadyH.cons rfl (fun K9 hK9 => ?_) AllReadyH.nil
            refine step_append_lies _ ?_ (.tmp 79) (.tmp 86) 25 ?_ (w2.heap.size + 1) 59 iS (.agg #[.string ⟨#[]⟩, .slice none 0 0]) 2 40 Tryz.underlying25 hi hzA0 hzA1 hzA2 rfl (by decide) (.slice a2 g.stems.length c2) g.stems.length ((g.stems.zip us).flatMap stemL) ?_ (own_below HG3.out.stm (one_belowS w3 _)) ⟨w3.heap.size, 0, none⟩ 1 1 [.string ws[1], (.slice (some ⟨bx, o0, none⟩) 0 0)] ?_ rfl (new_cells w3 _ _ _ rfl) stm_oneS (by decide) (by unfold maxLen; omega) (by omega) hBs _ rfl ?_; rfl; rfl; rfl; rfl
            intro gn cap w8 hown8 hgr8 hloc8 hlt8
            obtain ⟨HGn, HKn, hcf⟩ := HG3.out.stem (one_belowS w3 _) hB3 ⟨ws[1], ws.drop 2⟩ (.slice (some ⟨bx, o0, none⟩) 0 0) bx (HSz.out _ (List.getElem_mem _)) gn cap (HU3.out.below (one_belowS w3 _)) ⟨by omega, Nat.lt_of_lt_of_le hb0lt (one_belowS w3 _).size⟩ (fun j hj => by have := (HGr.out.low j hj).2; omega) ⟨fun e => by have := (World.ownsRow.lt HGr.out.aff _ e).2; omega, fun e => by have := (World.ownsRow.lt HGr.out.stm _ e).2; omega⟩ hown8 hgr8 hloc8
            have hfr8 : w8.heap[bx]? = w3.heap[bx]? := (hgr8.block bx (Nat.lt_of_lt_of_le hb0lt (one_belowS w3 _).size) hb0n2).trans ((one_belowS w3 _).block bx hb0lt)
            refine hK9.out _ _ (cell_of_sameR hfr8 hc1) (fun hHeld4 => ?_)
            clear hK9 K9
            try simp only [Act.put, List.getElem_toArray, List.getElem_cons_succ, List.getElem_cons_zero, List.setIfInBounds_toArray, List.set_cons_zero, List.set_cons_succ]
            refine wpAnyH_take (i := 10) (v := ?v35) rfl (by kernel_rfl) (by kernel_rfl) (by kernel_rfl) (fun _ _ _ h => h) (Or.inl ⟨by kernel_rfl, ?hy35⟩) (by assumption) ?_
            case hy35 => (intro w9 hS9; (try dsimp only at hS9); go_simp; (try with_reducible rfl))
            try simp only [Act.put, List.getElem_toArray, List.getElem_cons_succ, List.getElem_cons_zero, List.setIfInBounds_toArray, List.set_cons_zero, List.set_cons_succ]
            refine wpAnyH_ready (rs := [11]) (by kernel_rfl) (by simp) ?_
            refine AllReadyH.cons rfl (fun K9 hK9 => ?_) AllReadyH.nil
            rw [if_pos (by rfl)]
            go_simp
            refine hK9.out _ _ (cell_setR (Ne.symm hb0gb) (cell_of_sameR hfr8 hc1)) (fun hHeld5 => ?_)
            clear hK9 K9
            try simp only [Act.put, List.getElem_toArray, List.getElem_cons_succ, List.getElem_cons_zero, List.setIfInBounds_toArray, List.set_cons_zero, List.set_cons_succ]
            refine wpAnyH_done (by kernel_rfl) ?_ _
            have HF4 : Hid (foldG implLine emptyG (ls.take (j + 1)) = some ⟨g.affixes, g.stems ++ [⟨ws[1], ws.drop 2⟩]⟩) := Lib.hid (by rw [HFn.out, HS.out])
            have HG4 := Lib.hid HGn
            have HK4 := Lib.hid (HK3.out.trans HKn)
            clear HGn HKn
            go_wp2
            go_roundw
            case rel => exact ⟨j + 1, _, _, _, _, _, by omega, by go_num, HF4, HG4, HK4⟩
            case measure => simp [intOf]; omega
        · have HU3 : Hid (StrsW w3 bx (bx + 1) (.slice (some ⟨bx, (o0 + 2), none⟩) (ws.length - 2) (c - 2)) (ws.drop 2)) := Lib.hid hDr
          have hBs : w2.heap.size + 1 ≤ (w3.alloc (.cells #[.string ws[1], .slice (some ⟨bx, (o0 + 2), none⟩) (ws.length - 2) (c - 2)] 59)).drew.heap.size := Nat.le_trans hB3 (one_belowS w3 _).size
          have hw1a := cell_alloc (.cells #[.string ws[1], .slice (some ⟨bx, (o0 + 2), none⟩) (ws.length - 2) (c - 2)] 59) hw1
          clear hDr hux hbx hdl
          go_upto_region 13 with fail
          refine wp_region_held_drew (S := (fun w' => w'.cell? ⟨bx, o0 + 1, none⟩ = some (.string ws[1]))) (by kernel_rfl) ?_ (fun hHeld => ?_)
          · exact hc1
          refine wpAnyH_take (i := 0) (v := ?v36) rfl (by kernel_rfl) (by kernel_rfl) (by kernel_rfl) (fun _ _ _ h => h) (Or.inl ⟨by kernel_rfl, ?hy36⟩) (by assumption) ?_
          case hy36 => (intro w9 hS9; (try dsimp only at hS9); go_simp; (try with_reducible rfl))
          try simp only [Act.put, List.getElem_toArray, List.getElem_cons_succ, List.getElem_cons_zero, List.setIfInBounds_toArray, List.set_cons_zero, List.set_cons_succ]
          refine wpAnyH_take (i := 2) (v := ?v37) rfl (by kernel_rfl) (by kernel_rfl) (by kernel_rfl) (fun _ _ _ h => h) (Or.inl ⟨by kernel_rfl, ?hy37⟩) (by assumption) ?_
          case hy37 => (intro w9 hS9; (try dsimp only at hS9); go_simp; (try with_reducible rfl))
          try simp only [Act.put, List.getElem_toArray, List.getElem_cons_succ, List.getElem_cons_zero, List.setIfInBounds_toArray, List.set_cons_zero, List.set_cons_succ]
          refine wpAnyH_take (i := 3) (v := ?v38) rfl (by kernel_rfl) (by kernel_rfl) (by kernel_rfl) (fun _ _ _ h => h) (Or.inl ⟨by kernel_rfl, ?hy38⟩) (by assumption) ?_
          case hy38 => (intro w9 hS9; (try dsimp only at hS9); go_simp; (try with_reducible rfl))
          try simp only [Act.put, List.getElem_toArray, List.getElem_cons_succ, List.getElem_cons_zero, List.setIfInBounds_toArray, List.set_cons_zero, List.set_cons_succ]
          refine wpAnyH_take (i := 4) (v := ?v39) rfl (by kernel_rfl) (by kernel_rfl) (by kernel_rfl) (fun _ _ _ h => h) (Or.inl ⟨by kernel_rfl, ?hy39⟩) (by assumption) ?_
          case hy39 => (intro w9 hS9; (try dsimp only at hS9); go_simp; (try with_reducible rfl))
          try simp only [Act.put, List.getElem_toArray, List.getElem_cons_succ, List.getElem_cons_zero, List.setIfInBounds_toArray, List.set_cons_zero, List.set_cons_succ]
          refine wpAnyH_take (i := 5) (v := ?v40) rfl (by kernel_rfl) (by kernel_rfl) (by kernel_rfl) (fun _ _ _ h => h) (Or.inl ⟨by kernel_rfl, ?hy40⟩) (by assumption) ?_
          case hy40 => (intro w9 hS9; (try dsimp only at hS9); go_simp; (try with_reducible rfl))
          try simp only [Act.put, List.getElem_toArray, List.getElem_cons_succ, List.getElem_cons_zero, List.setIfInBounds_toArray, List.set_cons_zero, List.set_cons_succ]
          refine wpAnyH_take (i := 6) (v := ?v41) rfl (by kernel_rfl) (by kernel_rfl) (by kernel_rfl) (fun _ _ _ h => h) (Or.inl ⟨by kernel_rfl, ?hy41⟩) (by assumption) ?_
          case hy41 => (intro w9 hS9; (try dsimp only at hS9); go_simp; (try with_reducible rfl))
          try simp only [Act.put, List.getElem_toArray, List.getElem_cons_succ, List.getElem_cons_zero, List.setIfInBounds_toArray, List.set_cons_zero, List.set_cons_succ]
          refine wpAnyH_take (i := 7) (v := ?v42) rfl (by kernel_rfl) (by kernel_rfl) (by kernel_rfl) (fun _ _ _ h => h) (Or.inl ⟨by kernel_rfl, ?hy42⟩) (by assumption) ?_
          case hy42 => (intro w9 hS9; (try dsimp only at hS9); go_simp; (try with_reducible rfl))
          try simp only [Act.put, List.getElem_toArray, List.getElem_cons_succ, List.getElem_cons_zero, List.setIfInBounds_toArray, List.set_cons_zero, List.set_cons_succ]
          refine wpAnyH_ready (rs := [1, 8]) (by kernel_rfl) (by simp) ?_
          refine AllReadyH.cons rfl (fun K9 hK9 => ?_) (AllReadyH.cons rfl (fun K9 hK9 => ?_) (AllReadyH.nil))
          · rw [if_pos (by rfl)]
            go_simp
            refine hK9.out _ _ (by assumption) (fun hHeld2 => ?_)
            clear hK9 K9
            try simp only [Act.put, List.getElem_toArray, List.getElem_cons_succ, List.getElem_cons_zero, List.setIfInBounds_toArray, List.set_cons_zero, List.set_cons_succ]
            refine wpAnyH_ready (rs := [8]) (by kernel_rfl) (by simp) ?_
            refine AllReadyH.cons rfl (fun K9 hK9 => ?_) AllReadyH.nil
            rw [if_pos (by rfl)]
            go_simp
            refine hK9.out _ _ (cell_alloc _ hc1) (fun hHeld3 => ?_)
            clear hK9 K9
            try simp only [Act.put, List.getElem_toArray, List.getElem_cons_succ, List.getElem_cons_zero, List.setIfInBounds_toArray, List.set_cons_zero, List.set_cons_succ]
            refine wpAnyH_ready (rs := [9]) (by kernel_rfl) (by simp) ?_
            refine AllReadyH.cons rfl (fun K9 hK9 => ?_) AllReadyH.nil
            refine step_append_lies _ ?_ (.tmp 79) (.tmp 86) 25 ?_ (w2.heap.size + 1) 59 iS (.agg #[.string ⟨#[]⟩, .slice none 0 0]) 2 40 Tryz.underlying25 hi hzA0 hzA1 hzA2 rfl (by decide) (.slice a2 g.stems.length c2) g.stems.length ((g.stems.zip us).flatMap stemL) ?_ (own_below HG3.out.stm (one_belowS w3 _)) ⟨w3.heap.size, 0, none⟩ 1 1 [.string ws[1], (.slice (some ⟨bx, (o0 + 2), none⟩) (ws.length - 2) (c - 2))] ?_ rfl (new_cells w3 _ _ _ rfl) stm_oneS (by decide) (by unfold maxLen; omega) (by omega) hBs _ rfl ?_; rfl; rfl; rfl; rfl
            intro gn cap w8 hown8 hgr8 hloc8 hlt8
            obtain ⟨HGn, HKn, hcf⟩ := HG3.out.stem (one_belowS w3 _) hB3 ⟨ws[1], ws.drop 2⟩ (.slice (some ⟨bx, (o0 + 2), none⟩) (ws.length - 2) (c - 2)) bx (HSz.out _ (List.getElem_mem _)) gn cap (HU3.out.below (one_belowS w3 _)) ⟨by omega, Nat.lt_of_lt_of_le hb0lt (one_belowS w3 _).size⟩ (fun j hj => by have := (HGr.out.low j hj).2; omega) ⟨fun e => by have := (World.ownsRow.lt HGr.out.aff _ e).2; omega, fun e => by have := (World.ownsRow.lt HGr.out.stm _ e).2; omega⟩ hown8 hgr8 hloc8
            have hfr8 : w8.heap[bx]? = w3.heap[bx]? := (hgr8.block bx (Nat.lt_of_lt_of_le hb0lt (one_belowS w3 _).size) hb0n2).trans ((one_belowS w3 _).block bx hb0lt)
            refine hK9.out _ _ (cell_of_sameR hfr8 hc1) (fun hHeld4 => ?_)
            clear hK9 K9
            try simp only [Act.put, List.getElem_toArray, List.getElem_cons_succ, List.getElem_cons_zero, List.setIfInBounds_toArray, List.set_cons_zero, List.set_cons_succ]
            refine wpAnyH_take (i := 10) (v := ?v43) rfl (by kernel_rfl) (by kernel_rfl) (by kernel_rfl) (fun _ _ _ h => h) (Or.inl ⟨by kernel_rfl, ?hy43⟩) (by assumption) ?_
            case hy43 => (intro w9 hS9; (try dsimp only at hS9); go_simp; (try with_reducible rfl))
            try simp only [Act.put, List.getElem_toArray, List.getElem_cons_succ, List.getElem_cons_zero, List.setIfInBounds_toArray, List.set_cons_zero, List.set_cons_succ]
            refine wpAnyH_ready (rs := [11]) (by kernel_rfl) (by simp) ?_
            refine AllReadyH.cons rfl (fun K9 hK9 => ?_) AllReadyH.nil
            rw [if_pos (by rfl)]
            go_simp
            refine hK9.out _ _ (cell_setR (Ne.symm hb0gb) (cell_of_sameR hfr8 hc1)) (fun hHeld5 => ?_)
            clear hK9 K9
            try simp only [Act.put, List.getElem_toArray, List.getElem_cons_succ, List.getElem_cons_zero, List.setIfInBounds_toArray, List.set_cons_zero, List.set_cons_succ]
            refine wpAnyH_done (by kernel_rfl) ?_ _
            have HF4 : Hid (foldG implLine emptyG (ls.take (j + 1)) = some ⟨g.affixes, g.stems ++ [⟨ws[1], ws.drop 2⟩]⟩) := Lib.hid (by rw [HFn.out, HS.out])
            have HG4 := Lib.hid HGn
            have HK4 := Lib.hid (HK3.out.trans HKn)
            clear HGn HKn
            go_wp2
            go_roundw
            case rel => exact ⟨j + 1, _, _, _, _, _, by omega, by go_num, HF4, HG4, HK4⟩
            case measure => simp [intOf]; omega
          · rw [if_pos (by rfl)]
            go_simp
            refine hK9.out _ _ (cell_alloc _ hc1) (fun hHeld2 => ?_)
            clear hK9 K9
            try simp only [Act.put, List.getElem_toArray, List.getElem_cons_succ, List.getElem_cons_zero, List.setIfInBounds_toArray, List.set_cons_zero, List.set_cons_succ]
            refine wpAnyH_ready (rs := [1]) (by kernel_rfl) (by simp) ?_
            refine AllReadyH.cons rfl (fun K9 hK9 => ?_) AllReadyH.nil
            rw [if_pos (by rfl)]
            go_simp
            refine hK9.out _ _ (by assumption) (fun hHeld3 => ?_)
            clear hK9 K9
            try simp only [Act.put, List.getElem_toArray, List.getElem_cons_succ, List.getElem_cons_zero, List.setIfInBounds_toArray, List.set_cons_zero, List.set_cons_succ]
            refine wpAnyH_ready (rs := [9]) (by kernel_rfl) (by simp) ?_
            refine AllReadyH.cons rfl (fun K9 hK9 => ?_) AllReadyH.nil
            refine step_append_lies _ ?_ (.tmp 79) (.tmp 86) 25 ?_ (w2.heap.size + 1) 59 iS (.agg #[.string ⟨#[]⟩, .slice none 0 0]) 2 40 Tryz.underlying25 hi hzA0 hzA1 hzA2 rfl (by decide) (.slice a2 g.stems.length c2) g.stems.length ((g.stems.zip us).flatMap stemL) ?_ (own_below HG3.out.stm (one_belowS w3 _)) ⟨w3.heap.size, 0, none⟩ 1 1 [.string ws[1], (.slice (some ⟨bx, (o0 + 2), none⟩) (ws.length - 2) (c - 2))] ?_ rfl (new_cells w3 _ _ _ rfl) stm_oneS (by decide) (by unfold maxLen; omega) (by omega) hBs _ rfl ?_; rfl; rfl; rfl; rfl
            intro gn cap w8 hown8 hgr8 hloc8 hlt8
            obtain ⟨HGn, HKn, hcf⟩ := HG3.out.stem (one_belowS w3 _) hB3 ⟨ws[1], ws.drop 2⟩ (.slice (some ⟨bx, (o0 + 2), none⟩) (ws.length - 2) (c - 2)) bx (HSz.out _ (List.getElem_mem _)) gn cap (HU3.out.below (one_belowS w3 _)) ⟨by omega, Nat.lt_of_lt_of_le hb0lt (one_belowS w3 _).size⟩ (fun j hj => by have := (HGr.out.low j hj).2; omega) ⟨fun e => by have := (World.ownsRow.lt HGr.out.aff _ e).2; omega, fun e => by have := (World.ownsRow.lt HGr.out.stm _ e).2; omega⟩ hown8 hgr8 hloc8
            have hfr8 : w8.heap[bx]? = w3.heap[bx]? := (hgr8.block bx (Nat.lt_of_lt_of_le hb0lt (one_belowS w3 _).size) hb0n2).trans ((one_belowS w3 _).block bx hb0lt)
            refine hK9.out _ _ (cell_of_sameR hfr8 hc1) (fun hHeld4 => ?_)
            clear hK9 K9
            try simp only [Act.put, List.getElem_toArray, List.getElem_cons_succ, List.getElem_cons_zero, List.setIfInBounds_toArray, List.set_cons_zero, List.set_cons_succ]
            refine wpAnyH_take (i := 10) (v := ?v44) rfl (by kernel_rfl) (by kernel_rfl) (by kernel_rfl) (fun _ _ _ h => h) (Or.inl ⟨by kernel_rfl, ?hy44⟩) (by assumption) ?_
            case hy44 => (intro w9 hS9; (try dsimp only at hS9); go_simp; (try with_reducible rfl))
            try simp only [Act.put, List.getElem_toArray, List.getElem_cons_succ, List.getElem_cons_zero, List.setIfInBounds_toArray, List.set_cons_zero, List.set_cons_succ]
            refine wpAnyH_ready (rs := [11]) (by kernel_rfl) (by simp) ?_
            refine AllReadyH.cons rfl (fun K9 hK9 => ?_) AllReadyH.nil
            rw [if_pos (by rfl)]
            go_simp
            refine hK9.out _ _ (cell_setR (Ne.symm hb0gb) (cell_of_sameR hfr8 hc1)) (fun hHeld5 => ?_)
            clear hK9 K9
            try simp only [Act.put, List.getElem_toArray, List.getElem_cons_succ, List.getElem_cons_zero, List.setIfInBounds_toArray, List.set_cons_zero, List.set_cons_succ]
            refine wpAnyH_done (by kernel_rfl) ?_ _
            have HF4 : Hid (foldG implLine emptyG (ls.take (j + 1)) = some ⟨g.affixes, g.stems ++ [⟨ws[1], ws.drop 2⟩]⟩) := Lib.hid (by rw [HFn.out, HS.out])
            have HG4 := Lib.hid HGn
            have HK4 := Lib.hid (HK3.out.trans HKn)
            clear HGn HKn
            go_wp2
            go_roundw
            case rel => exact ⟨j + 1, _, _, _, _, _, by omega, by go_num, HF4, HG4, HK4⟩
            case measure => simp [intOf]; omega
      have HS : Hid (implLine g ws = none) := Lib.hid (by rw [HNA.out, if_neg (fun h => hS ⟨by rw [← e0]; exact h.1, h.2⟩)])
      have HN := Lib.hid (impl_no (.inr (.inr (.inl (by rw [← HLS.out]; exact foldG_stop (HFn.out.trans HS.out))))))
      have HR4 := Lib.hid ((HK3.out.block w.heap.size (by omega) (by omega)).trans HR3.out)
      have HB4 := Lib.hid (HBx.out.trans (HK3.out.below (C := w.heap.size) (by omega) (by omega)))
      have hnaff : (ws[0].toList == [97, 102, 102, 105, 120]) = false ∨ ((ws[0].toList == [97, 102, 102, 105, 120]) = true ∧ ((ws.length : Int) == 6) = false) := by
        cases h : (ws[0].toList == [97, 102, 102, 105, 120])
        · exact .inl rfl
        · exact .inr ⟨rfl, by rw [beq_eq_false_iff_ne]; intro h6; exact HA.out ⟨h, by omega⟩⟩
      have hnstm : (ws[0].toList == [115, 116, 101, 109]) = false ∨ ((ws[0].toList == [115, 116, 101, 109]) = true ∧ ¬ ((2 : Int) ≤ (ws.length : Int))) := by
        cases h : (ws[0].toList == [115, 116, 101, 109])
        · exact .inl rfl
        · exact .inr ⟨rfl, fun h6 => hS ⟨h, by omega⟩⟩
      clear hS hw0 hw1
      rcases hnaff with h1 | ⟨h1, h1'⟩ <;> rcases hnstm with h2 | ⟨h2, h2'⟩
      · have two := twoOf HR4.out (.slice none 0 0)
        have tc0 := two.c0
        have tf0 := two.f0
        have tc1 := two.c1
        have tf1 := two.f1
        clear two
        go_wp2
        refine bodyPost_ret (v := .tuple #[.agg #[.slice none 0 0, .slice none 0 0], .bool false]) (res_cell_rowG (p := 2) (u := 3) (ty := 27) rfl _ _ w.heap.size _ _ _ _ rfl (store_nilG HR4.out _ _) Tryz.underlying27 rfl infoGra) rfl ⟨_, by rw [(rg_none HN.out).2], by rw [(rg_none HN.out).1]; exact graX_nil _ (by rw [two_set_size]; have := HB4.out.size; omega), two_set_below HB4.out (Nat.le_refl _) _ _⟩
      · have two := twoOf HR4.out (.slice none 0 0)
        have tc0 := two.c0
        have tf0 := two.f0
        have tc1 := two.c1
        have tf1 := two.f1
        clear two
        go_wp2
        refine bodyPost_ret (v := .tuple #[.agg #[.slice none 0 0, .slice none 0 0], .bool false]) (res_cell_rowG (p := 2) (u := 3) (ty := 27) rfl _ _ w.heap.size _ _ _ _ rfl (store_nilG HR4.out _ _) Tryz.underlying27 rfl infoGra) rfl ⟨_, by rw [(rg_none HN.out).2], by rw [(rg_none HN.out).1]; exact graX_nil _ (by rw [two_set_size]; have := HB4.out.size; omega), two_set_below HB4.out (Nat.le_refl _) _ _⟩
      · have two := twoOf HR4.out (.slice none 0 0)
        have tc0 := two.c0
        have tf0 := two.f0
        have tc1 := two.c1
        have tf1 := two.f1
        clear two
        go_wp2
        refine bodyPost_ret (v := .tuple #[.agg #[.slice none 0 0, .slice none 0 0], .bool false]) (res_cell_rowG (p := 2) (u := 3) (ty := 27) rfl _ _ w.heap.size _ _ _ _ rfl (store_nilG HR4.out _ _) Tryz.underlying27 rfl infoGra) rfl ⟨_, by rw [(rg_none HN.out).2], by rw [(rg_none HN.out).1]; exact graX_nil _ (by rw [two_set_size]; have := HB4.out.size; omega), two_set_below HB4.out (Nat.le_refl _) _ _⟩
      · have two := twoOf HR4.out (.slice none 0 0)
        have tc0 := two.c0
        have tf0 := two.f0
        have tc1 := two.c1
        have tf1 := two.f1
        clear two
        go_wp2
        refine bodyPost_ret (v := .tuple #[.agg #[.slice none 0 0, .slice none 0 0], .bool false]) (res_cell_rowG (p := 2) (u := 3) (ty := 27) rfl _ _ w.heap.size _ _ _ _ rfl (store_nilG HR4.out _ _) Tryz.underlying27 rfl infoGra) rfl ⟨_, by rw [(rg_none HN.out).2], by rw [(rg_none HN.out).1]; exact graX_nil _ (by rw [two_set_size]; have := HB4.out.size; omega), two_set_below HB4.out (Nat.le_refl _) _ _⟩
    · obtain rfl : j = ls.length := by omega
      have HF5 : Hid (foldG implLine emptyG (linesL s) = some g) := Lib.hid (by have := HF.out; rw [List.take_length] at this; rw [← HLS.out]; exact this)
      have hjI : ¬ ((ls.length : Int) < (ls.length : Int)) := by omega
      have hc0 := HG.out.cell0.1
      have hc1 := HG.out.cell1.1
      go_wp2_with fail
      refine (implValidGrammar_any _ g _ HG.out.graRx (HM.out.below HBr.out)).mono ?_
      rintro e w5 ⟨rfl, hb5⟩
      have HG5 := Lib.hid (HG.out.below hb5)
      have HR5 := Lib.hid ((hb5.block w.heap.size (by omega)).trans HRr.out)
      have HB5 := Lib.hid (HBr.out.trans (hb5.mono HBr.out.size))
      have hz5 : w2.heap.size + 1 ≤ w5.heap.size := by have := hb5.size; omega
      have hc0 := HG5.out.cell0.1
      have hc1 := HG5.out.cell1.1
      clear hb5
      cases hg : graB g
      · have HN := Lib.hid (impl_no (.inr (.inr (.inr ⟨g, HF5.out, .inl hg⟩))))
        have two := twoOf HR5.out (.slice none 0 0)
        have tc0 := two.c0
        have tf0 := two.f0
        have tc1 := two.c1
        have tf1 := two.f1
        clear two
        go_wp2
        refine bodyPost_ret (v := .tuple #[.agg #[.slice none 0 0, .slice none 0 0], .bool false]) (res_cell_rowG (p := 2) (u := 3) (ty := 27) rfl _ _ w.heap.size _ _ _ _ rfl (store_nilG HR5.out _ _) Tryz.underlying27 rfl infoGra) rfl ⟨_, by rw [(rg_none HN.out).2], by rw [(rg_none HN.out).1]; exact graX_nil _ (by rw [two_set_size]; have := HB5.out.size; omega), two_set_below HB5.out (Nat.le_refl _) _ _⟩
      have Hg := Lib.hid hg
      go_wp2_with fail
      refine (implGrammarText_any _ g _ HG5.out.graRx (HM.out.below HB5.out)).mono ?_
      rintro e w6 ⟨rfl, hb6⟩
      have HG6 := Lib.hid (HG5.out.below hb6)
      have HR6 := Lib.hid ((hb6.block w.heap.size (by omega)).trans HR5.out)
      have HB6 := Lib.hid (HB5.out.trans (hb6.mono HB5.out.size))
      have hz6 : w2.heap.size + 1 ≤ w6.heap.size := by have := hb6.size; omega
      have hc0 := HG6.out.cell0.1
      have hc1 := HG6.out.cell1.1
      obtain ⟨t, ht⟩ : ∃ t, gtV g = t := ⟨_, rfl⟩
      rw [ht]
      have ht2 : baL (textG g) = t := by rw [← ht, gtV_yes Hg.out]; rfl
      have HT := Lib.hid ht2
      clear hb6 ht ht2 hg
      cases hts : (t.toList == s.toList)
      · have HN := Lib.hid (impl_no (.inr (.inr (.inr ⟨g, HF5.out, .inr (by rw [HT.out]; intro e; rw [e] at hts; simp at hts)⟩))))
        have two := twoOf HR6.out (.slice none 0 0)
        have tc0 := two.c0
        have tf0 := two.f0
        have tc1 := two.c1
        have tf1 := two.f1
        clear two
        go_wp2
        refine bodyPost_ret (v := .tuple #[.agg #[.slice none 0 0, .slice none 0 0], .bool false]) (res_cell_rowG (p := 2) (u := 3) (ty := 27) rfl _ _ w.heap.size _ _ _ _ rfl (store_nilG HR6.out _ _) Tryz.underlying27 rfl infoGra) rfl ⟨_, by rw [(rg_none HN.out).2], by rw [(rg_none HN.out).1]; exact graX_nil _ (by rw [two_set_size]; have := HB6.out.size; omega), two_set_below HB6.out (Nat.le_refl _) _ _⟩
      · have HN := Lib.hid (readV_is Hg.out (HT.out.trans (bytes_eq_of hts)))
        have two := twoOf HR6.out (.slice a1 g.affixes.length c1)
        have tc0 := two.c0
        have tf0 := two.f0
        have tc1 := two.c1
        have tf1 := two.f1
        clear two
        go_wp2
        refine bodyPost_ret (v := .tuple #[.agg #[.slice a1 g.affixes.length c1, .slice a2 g.stems.length c2], .bool true]) (res_cell_rowG (p := 2) (u := 3) (ty := 27) rfl _ _ w.heap.size _ _ _ _ rfl (store_nilG HR6.out _ _) Tryz.underlying27 rfl infoGra) rfl ⟨_, by rw [(rg_some HN.out).2], ?_, two_set_below HB6.out (Nat.le_refl _) _ _⟩
        rw [(rg_some HN.out).1]
        exact (HG6.out.frame (fun k _ hk => two_set_block _ _ _ _ k (by omega)) (by rw [two_set_size]; exact Nat.le_refl _)).graX (rb := w.heap.size) (by omega) (Nat.le_refl _) (by omega) (by omega) (by rw [two_set_size]; exact hz6)
end Go.Proofs.YtndfhmphlomeiaaGreatDoor
