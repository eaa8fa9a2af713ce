/- StandardTiles of both sides. Condition: what the row lists. -/
import Derived.Test.YtjgpcmjnmddbkaaDoorTp
import Derived.Test.YtjgpcmjnmddbkaaDoorStL
import Derived.Maps.OwnSet
import Derived.Maps.StringElems
namespace Go.Proofs.YtjgpcmjnmddbkaaDoor
open Go.RowKit
/-- What StandardTiles gives. -/
noncomputable def stV (s : ByteArray) : TileD := rtV (stT s)
noncomputable def stE (s : ByteArray) : Int := if rtB (stT s) then 0 else 3
theorem st_none {s : ByteArray} (h : rtB (stT s) = false) : stV s = emptyT ∧ stE s = 3 := by
  unfold stV stE
  refine ⟨?_, by rw [h]; rfl⟩
  unfold rtB at h
  unfold rtV
  cases hr : readT (stT s).data.toList with
  | none => rfl
  | some x => rw [hr] at h; cases h
theorem st_some {s t : ByteArray} (h : rtB t = true) (ht : stT s = t) : stV s = rtV t ∧ stE s = 0 := by
  unfold stV stE; rw [ht, h]; exact ⟨rfl, rfl⟩
theorem rtB_eng : rtB engB = true := (rt_some read_eng).2
theorem rtB_sma : rtB smaB = true := (rt_some read_sma).2
theorem rtB_nil : rtB ⟨#[]⟩ = false := (rt_none read_nil).2
theorem stT_le (s : ByteArray) : (stT s).size ≤ 1048576 := by
  unfold stT
  split
  · decide +kernel
  · split
    · decide +kernel
    · decide +kernel
theorem list_ne {a b : ByteArray} (h : a ≠ b) : (a.toList == b.toList) = false := by
  rw [beq_eq_false_iff_ne, Lib.toList_data, Lib.toList_data]; intro e; exact h (ba_inj e)
attribute [local irreducible] Calls
set_option maxHeartbeats 2000000 in
set_option maxRecDepth 20000 in
theorem l02Standard_any (s : ByteArray) (w : World) : Calls Tryd.prog 48 #[.string s] w fun e w' => e = .returned (.string (stT s)) ∧ w' = w := by
  have e1 : engN.toList = [101, 110, 103, 108, 105, 115, 104] := by rw [Lib.toList_data]; rfl
  have e2 : smaN.toList = [115, 109, 97, 108, 108] := by rw [Lib.toList_data]; rfl
  by_cases h1 : s = engN
  · have q1 : (s.toList == [101, 110, 103, 108, 105, 115, 104]) = true := by rw [h1, e1]; rfl
    have Hs := Lib.hid (show stT s = engB by rw [h1, stT_eng])
    clear h1 e1 e2
    go_enter Tryd.func48, Tryd.ntmps48
    go_wp2
    go_ret
    exact ⟨ret_str (by rw [Hs.out]; decide +kernel), rfl⟩
  · have q1 : (s.toList == [101, 110, 103, 108, 105, 115, 104]) = false := by rw [← e1]; exact list_ne h1
    by_cases h2 : s = smaN
    · have q2 : (s.toList == [115, 109, 97, 108, 108]) = true := by rw [h2, e2]; rfl
      have Hs := Lib.hid (show stT s = smaB by rw [h2, stT_sma])
      clear h1 h2 e1 e2
      go_enter Tryd.func48, Tryd.ntmps48
      go_wp2
      go_ret
      exact ⟨ret_str (by rw [Hs.out]; decide +kernel), rfl⟩
    · have q2 : (s.toList == [115, 109, 97, 108, 108]) = false := by rw [← e2]; exact list_ne h2
      have Hs := Lib.hid (stT_no h1 h2)
      clear h1 h2 e1 e2
      go_enter Tryd.func48, Tryd.ntmps48
      go_wp2
      go_ret
      exact ⟨ret_str (by rw [Hs.out]), rfl⟩
set_option maxHeartbeats 4000000 in
set_option maxRecDepth 20000 in
theorem specStandardTiles_any (s : ByteArray) (w : World) (_hs : s.size ≤ 1048576) (_hML : MaxL w) (_hTab : TabP w) (_hErr : ErrV w) :
    Calls Tryd.prog 27 #[.string s] w fun e w' => ∃ v', e = .returned (.tuple #[v', .int .i64 (stE s)]) ∧ TilX w' w.heap.size w'.heap.size v' (stV s) ∧ Below w.heap.size w w' := by
  have hb0 : Below w.heap.size w (w.alloc (.cells #[.string ⟨#[]⟩, .slice none 0 0, .slice none 0 0, .int .i64 0] 36)) := (Below.refl _ _).alloc (Nat.le_refl _) _
  have r0 := heap_alloc_new w (.cells #[.string ⟨#[]⟩, .slice none 0 0, .slice none 0 0, .int .i64 0] 36)
  go_enter Tryd.func27, Tryd.ntmps27
  go_wp2_with fail
  refine (l02Standard_any s _).mono ?_
  rintro e wq ⟨rfl, hwq⟩
  subst hwq
  go_wp2_with fail
  refine (l02Read_any (stT s) _ (stT_le s)).mono ?_
  rintro e w1 ⟨v1, rfl, hv1, hb1⟩
  have hz1 : w.heap.size + 1 ≤ w1.heap.size := by have := hb1.size; simpa using this
  have hr1 := (hb1.block (w.heap.size) (by simp)).trans r0
  obtain ⟨a, c, b, d, rfl⟩ := hv1.shape
  rw [World.size_alloc] at hv1
  have hb2 : Below w1.heap.size w1 (w1.alloc (.cells #[.string (rtV (stT s)).letters, .slice a (rtV (stT s)).values.length c, .slice b (rtV (stT s)).counts.length d, .int .i64 (rtV (stT s)).blanks] 36)) := (Below.refl _ _).alloc (Nat.le_refl _) _
  have HB1 := Lib.hid ((hb0.trans (hb1.mono hb0.size)).trans (hb2.mono (by omega)))
  have hr2 := (hb2.block w.heap.size (by omega)).trans hr1
  have HR1 := Lib.hid hr2
  have HV1 := Lib.hid ((hv1.below hb2).mono (lo' := w.heap.size + 1) (hi' := w1.heap.size) (Nat.le_refl _) (Nat.le_refl _))

  have k0 := cell_newi w1 #[.string (rtV (stT s)).letters, .slice a (rtV (stT s)).values.length c, .slice b (rtV (stT s)).counts.length d, .int .i64 (rtV (stT s)).blanks] 36 0 (.string (rtV (stT s)).letters) rfl
  have k1 := cell_newi w1 #[.string (rtV (stT s)).letters, .slice a (rtV (stT s)).values.length c, .slice b (rtV (stT s)).counts.length d, .int .i64 (rtV (stT s)).blanks] 36 1 (.slice a (rtV (stT s)).values.length c) rfl
  have k2 := cell_newi w1 #[.string (rtV (stT s)).letters, .slice a (rtV (stT s)).values.length c, .slice b (rtV (stT s)).counts.length d, .int .i64 (rtV (stT s)).blanks] 36 2 (.slice b (rtV (stT s)).counts.length d) rfl
  have k3 := cell_newi w1 #[.string (rtV (stT s)).letters, .slice a (rtV (stT s)).values.length c, .slice b (rtV (stT s)).counts.length d, .int .i64 (rtV (stT s)).blanks] 36 3 (.int .i64 (rtV (stT s)).blanks) rfl
  have hzn : (w1.alloc (.cells #[.string (rtV (stT s)).letters, .slice a (rtV (stT s)).values.length c, .slice b (rtV (stT s)).counts.length d, .int .i64 (rtV (stT s)).blanks] 36)).heap.size = w1.heap.size + 1 := by simp
  have d0 : (w1.alloc (.cells #[.string (rtV (stT s)).letters, .slice a (rtV (stT s)).values.length c, .slice b (rtV (stT s)).counts.length d, .int .i64 (rtV (stT s)).blanks] 36)).cell? ⟨w.heap.size, 0, none⟩ = some (.string ⟨#[]⟩) := (box_cell (i := 0) hr2 rfl).1
  have d1 : (w1.alloc (.cells #[.string (rtV (stT s)).letters, .slice a (rtV (stT s)).values.length c, .slice b (rtV (stT s)).counts.length d, .int .i64 (rtV (stT s)).blanks] 36)).cell? ⟨w.heap.size, 1, none⟩ = some (.slice none 0 0) := (box_cell (i := 1) hr2 rfl).1
  have d2 : (w1.alloc (.cells #[.string (rtV (stT s)).letters, .slice a (rtV (stT s)).values.length c, .slice b (rtV (stT s)).counts.length d, .int .i64 (rtV (stT s)).blanks] 36)).cell? ⟨w.heap.size, 2, none⟩ = some (.slice none 0 0) := (box_cell (i := 2) hr2 rfl).1
  have d3 : (w1.alloc (.cells #[.string (rtV (stT s)).letters, .slice a (rtV (stT s)).values.length c, .slice b (rtV (stT s)).counts.length d, .int .i64 (rtV (stT s)).blanks] 36)).cell? ⟨w.heap.size, 3, none⟩ = some (.int .i64 0) := (box_cell (i := 3) hr2 rfl).1
  have z0 : (w1.alloc (.cells #[.string (rtV (stT s)).letters, .slice a (rtV (stT s)).values.length c, .slice b (rtV (stT s)).counts.length d, .int .i64 (rtV (stT s)).blanks] 36)).frozen? ⟨w.heap.size, 0, none⟩ = false := (box_cell (i := 0) hr2 rfl).2
  have z1 : (w1.alloc (.cells #[.string (rtV (stT s)).letters, .slice a (rtV (stT s)).values.length c, .slice b (rtV (stT s)).counts.length d, .int .i64 (rtV (stT s)).blanks] 36)).frozen? ⟨w.heap.size, 1, none⟩ = false := (box_cell (i := 1) hr2 rfl).2
  have z2 : (w1.alloc (.cells #[.string (rtV (stT s)).letters, .slice a (rtV (stT s)).values.length c, .slice b (rtV (stT s)).counts.length d, .int .i64 (rtV (stT s)).blanks] 36)).frozen? ⟨w.heap.size, 2, none⟩ = false := (box_cell (i := 2) hr2 rfl).2
  have z3 : (w1.alloc (.cells #[.string (rtV (stT s)).letters, .slice a (rtV (stT s)).values.length c, .slice b (rtV (stT s)).counts.length d, .int .i64 (rtV (stT s)).blanks] 36)).frozen? ⟨w.heap.size, 3, none⟩ = false := (box_cell (i := 3) hr2 rfl).2
  cases hB : rtB (stT s)
  · have Hno := Lib.hid (st_none hB)
    have HBf := Lib.hid hB
    go_wp2
    have st := store4 HR1.out (.string ⟨#[]⟩) (.slice none 0 0) (.slice none 0 0) (.int .i64 0)
    refine bodyPost_ret (v := .tuple #[.agg #[.string ⟨#[]⟩, .slice none 0 0, .slice none 0 0, .int .i64 0], .int .i64 3]) (results_cell_rowT (p := 2) (u := 3) (ty := 36) rfl _ _ w.heap.size _ _ _ _ rfl st.1 Tryd.underlying36 rfl infoTil) rfl ⟨_, by rw [Hno.out.2], ?_, HB1.out.trans (st.2.1.below (Nat.le_refl _) HB1.out.size)⟩
    rw [Hno.out.1]
    exact emptyT_X _ _ (by rw [st.2.2]; omega)
  · have Hyes := Lib.hid (st_some hB rfl)
    go_wp2
    have st := store4 HR1.out (.string (rtV (stT s)).letters) (.slice a (rtV (stT s)).values.length c) (.slice b (rtV (stT s)).counts.length d) (.int .i64 (rtV (stT s)).blanks)
    refine bodyPost_ret (v := .tuple #[.agg #[.string (rtV (stT s)).letters, .slice a (rtV (stT s)).values.length c, .slice b (rtV (stT s)).counts.length d, .int .i64 (rtV (stT s)).blanks], .int .i64 0]) (results_cell_rowT (p := 2) (u := 3) (ty := 36) rfl _ _ w.heap.size _ _ _ _ rfl st.1 Tryd.underlying36 rfl infoTil) rfl ⟨_, by rw [Hyes.out.2], ?_, HB1.out.trans (st.2.1.below (Nat.le_refl _) HB1.out.size)⟩
    rw [Hyes.out.1]
    exact (HV1.out.kept st.2.1 (.inr (Nat.le_refl _))).mono (Nat.le_succ _) (by rw [st.2.2]; omega)

theorem zeroStr (w : World) : (zeroValue 9).run Tryd.prog w = .ok (.string ByteArray.empty) w := by kernel_rfl
set_option maxHeartbeats 8000000 in
set_option maxRecDepth 20000 in
theorem implStandardTiles_any (s : ByteArray) (w : World) (hs : s.size ≤ 1048576) (hML : MaxL w) (hTab : TabP w) (hErr : ErrV w) :
    Calls Tryd.prog 28 #[.string s] w fun e w' => ∃ v', e = .returned (.tuple #[v', .int .i64 (stE s)]) ∧ TilX w' w.heap.size w'.heap.size v' (stV s) ∧ Below w.heap.size w w' := by
  have hmm := @run_makeMap Tryd.prog
  have hb0 : Below w.heap.size w (w.alloc (.cells #[.string ⟨#[]⟩, .slice none 0 0, .slice none 0 0, .int .i64 0] 36)) := (Below.refl _ _).alloc (Nat.le_refl _) _
  have r0 := heap_alloc_new w (.cells #[.string ⟨#[]⟩, .slice none 0 0, .slice none 0 0, .int .i64 0] 36)
  have K : Go.Maps.Keyed Tryd.prog 9 := Go.Maps.string_keyed Tryd.underlying9
  have hm0 := World.ownsMap_made (H := Unit) (w.alloc (.cells #[.string ⟨#[]⟩, .slice none 0 0, .slice none 0 0, .int .i64 0] 36)) Tryd.prog 9 (plainElem Tryd.prog 9)
  obtain ⟨w2, hu1, hm1, hg1⟩ := hm0.update K Tryd.underlying61 (by unfold maxLen; omega) (Go.WideMaps.keyOf_string_mk Tryd.underlying9 (s := engN) (by decide +kernel)) (plainElem_string Tryd.underlying9 (s := engB) (by decide +kernel))
  obtain ⟨w3, hu2, hm2, hg2⟩ := hm1.update K Tryd.underlying61 (by unfold maxLen; omega) (Go.WideMaps.keyOf_string_mk Tryd.underlying9 (s := smaN) (by decide +kernel)) (plainElem_string Tryd.underlying9 (s := smaB) (by decide +kernel))
  obtain ⟨v, ps, hl, hv⟩ := hm2.look_ok K Tryd.underlying61 (z := .string ByteArray.empty) (zeroStr _) (plainElem_string Tryd.underlying9 (s := ByteArray.empty) (by decide +kernel)) (Go.WideMaps.keyOf_string_mk Tryd.underlying9 (s := s) (by unfold maxLen; omega))
  have hsz : (w.alloc (.cells #[.string ⟨#[]⟩, .slice none 0 0, .slice none 0 0, .int .i64 0] 36)).heap.size = w.heap.size + 1 := by simp
  rw [hsz] at hu1 hm1 hg1 hu2 hm2 hg2 hl
  have hu1 : (Instr.mapUpdate 61 (.map (some (w.heap.size + 1))) (.string ⟨#[101, 110, 103, 108, 105, 115, 104]⟩) (.string ⟨#[97, 49, 120, 57, 32, 98, 51, 120, 50, 32, 99, 51, 120, 50, 32, 100, 50, 120, 52, 32, 101, 49, 120, 49, 50, 32, 102, 52, 120, 50, 32, 103, 50, 120, 51, 32, 104, 52, 120, 50, 32, 105, 49, 120, 57, 32, 106, 56, 120, 49, 32, 107, 53, 120, 49, 32, 108, 49, 120, 52, 32, 109, 51, 120, 50, 32, 110, 49, 120, 54, 32, 111, 49, 120, 56, 32, 112, 51, 120, 50, 32, 113, 49, 48, 120, 49, 32, 114, 49, 120, 54, 32, 115, 49, 120, 52, 32, 116, 49, 120, 54, 32, 117, 49, 120, 52, 32, 118, 52, 120, 50, 32, 119, 52, 120, 50, 32, 120, 56, 120, 49, 32, 121, 52, 120, 50, 32, 122, 49, 48, 120, 49, 32, 63, 120, 50]⟩)).run Tryd.prog ((w.alloc (.cells #[.string ⟨#[]⟩, .slice none 0 0, .slice none 0 0, .int .i64 0] 36)).alloc (.map #[] 0)) = .ok () w2 := hu1
  have hu2 : (Instr.mapUpdate 61 (.map (some (w.heap.size + 1))) (.string ⟨#[115, 109, 97, 108, 108]⟩) (.string ⟨#[97, 49, 120, 51, 32, 101, 49, 120, 51, 32, 110, 50, 120, 50, 32, 114, 50, 120, 50, 32, 115, 49, 120, 50, 32, 116, 50, 120, 50, 32, 63, 120, 49]⟩)).run Tryd.prog w2 = .ok () w3 := hu2
  have hc : (Maps.has (((DataW.map ([] : List (Lit × DataW Unit))).put (.string engN.data.toList) (.lit (.string engB.data.toList))).put (.string smaN.data.toList) (.lit (.string smaB.data.toList))) (.string s.data.toList) = false ∧ rtB (stT s) = false) ∨
      (Maps.has (((DataW.map ([] : List (Lit × DataW Unit))).put (.string engN.data.toList) (.lit (.string engB.data.toList))).put (.string smaN.data.toList) (.lit (.string smaB.data.toList))) (.string s.data.toList) = true ∧ ∃ t, v = .string t ∧ stT s = t ∧ rtB t = true ∧ t.size ≤ 1048576) := by
    obtain ⟨t, rfl, ht, -⟩ := plainElem_string_inv Tryd.underlying9 hv
    have ht := congrArg Prod.fst ht
    simp only at ht
    by_cases h2 : s = smaN
    · subst h2
      rw [Go.Maps.atKey_put_same (Go.Maps.isMap_empty.put _ _) (by trivial)] at ht
      refine .inr ⟨Go.Maps.has_put_same (Go.Maps.isMap_empty.put _ _) (by trivial) _, t, rfl, ?_, ?_⟩
      · injection ht with ht; injection ht with ht
        rw [stT_sma]; exact ba_inj ht
      · injection ht with ht; injection ht with ht
        rw [← ba_inj ht]; exact ⟨rtB_sma, by decide +kernel⟩
    · have k2 : (Lit.string s.data.toList) ≠ Lit.string smaN.data.toList := fun e => h2 (by injection e with e; exact ba_inj e)
      rw [Go.Maps.has_put_other k2]
      rw [Go.Maps.atKey_put_other k2] at ht
      by_cases h1 : s = engN
      · subst h1
        rw [Go.Maps.atKey_put_same Go.Maps.isMap_empty (by trivial)] at ht
        refine .inr ⟨Go.Maps.has_put_same Go.Maps.isMap_empty (by trivial) _, t, rfl, ?_, ?_⟩
        · injection ht with ht; injection ht with ht
          rw [stT_eng]; exact ba_inj ht
        · injection ht with ht; injection ht with ht
          rw [← ba_inj ht]; exact ⟨rtB_eng, by decide +kernel⟩
      · have k1 : (Lit.string s.data.toList) ≠ Lit.string engN.data.toList := fun e => h1 (by injection e with e; exact ba_inj e)
        rw [Go.Maps.has_put_other k1]
        exact .inl ⟨rfl, by rw [stT_no h1 h2]; exact rtB_nil⟩
  have hbm : Below w.heap.size w ((w.alloc (.cells #[.string ⟨#[]⟩, .slice none 0 0, .slice none 0 0, .int .i64 0] 36)).alloc (.map #[] 0)) := hb0.alloc (by simp) _
  have hz2 := hg1.size
  have hz3 := hg2.size
  have hzm : ((w.alloc (.cells #[.string ⟨#[]⟩, .slice none 0 0, .slice none 0 0, .int .i64 0] 36)).alloc (.map #[] 0)).heap.size = w.heap.size + 2 := by simp
  have hB2 : Below w.heap.size w w2 := ⟨hg1.os.trans hbm.os, hg1.tape.trans hbm.tape, hg1.output.trans hbm.output, by omega, fun k hk => (hg1.block k (by omega) (by intro e; cases e; omega)).trans (hbm.block k hk)⟩
  have hB3 : Below w.heap.size w w3 := ⟨hg2.os.trans hB2.os, hg2.tape.trans hB2.tape, hg2.output.trans hB2.output, by omega, fun k hk => (hg2.block k (by omega) (by intro e; cases e; omega)).trans (hB2.block k hk)⟩
  have hr3 : w3.heap[w.heap.size]? = some (.cells #[.string ⟨#[]⟩, .slice none 0 0, .slice none 0 0, .int .i64 0] 36 (0, 0)) := by
    rw [hg2.block _ (by omega) (by simp), hg1.block _ (by omega) (by simp)]
    exact heap_alloc2_old w _ _
  have hz0 : w.heap.size + 2 ≤ w3.heap.size := by omega
  have HB3 := Lib.hid hB3
  have HR3 := Lib.hid hr3
  have HC := Lib.hid hc
  have HML := Lib.hid hML
  have HTab := Lib.hid hTab
  have HErr := Lib.hid hErr
  clear hc hbm hB2 hm0 hm1 hm2 hg1 hg2 hv r0 hb0 hML hTab hErr hz2 hz3 hzm K
  have d0 : w3.cell? ⟨w.heap.size, 0, none⟩ = some (.string ⟨#[]⟩) := (box_cell (i := 0) hr3 rfl).1
  have d1 : w3.cell? ⟨w.heap.size, 1, none⟩ = some (.slice none 0 0) := (box_cell (i := 1) hr3 rfl).1
  have d2 : w3.cell? ⟨w.heap.size, 2, none⟩ = some (.slice none 0 0) := (box_cell (i := 2) hr3 rfl).1
  have d3 : w3.cell? ⟨w.heap.size, 3, none⟩ = some (.int .i64 0) := (box_cell (i := 3) hr3 rfl).1
  have z0 : w3.frozen? ⟨w.heap.size, 0, none⟩ = false := (box_cell (i := 0) hr3 rfl).2
  have z1 : w3.frozen? ⟨w.heap.size, 1, none⟩ = false := (box_cell (i := 1) hr3 rfl).2
  have z2 : w3.frozen? ⟨w.heap.size, 2, none⟩ = false := (box_cell (i := 2) hr3 rfl).2
  have z3 : w3.frozen? ⟨w.heap.size, 3, none⟩ = false := (box_cell (i := 3) hr3 rfl).2
  clear hr3 hB3
  rcases HC.out with ⟨hh, hB⟩ | ⟨hh, t, hvt, hst, htB, hts⟩
  · rw [hh] at hl
    have Hno := Lib.hid (st_none hB)
    clear hh hB HC
    go_enter Tryd.func28, Tryd.ntmps28
    go_wp2
    have st := store4 HR3.out (.string ⟨#[]⟩) (.slice none 0 0) (.slice none 0 0) (.int .i64 0)
    refine bodyPost_ret (v := .tuple #[.agg #[.string ⟨#[]⟩, .slice none 0 0, .slice none 0 0, .int .i64 0], .int .i64 3]) (results_cell_rowT (p := 2) (u := 3) (ty := 36) rfl _ _ w.heap.size _ _ _ _ rfl st.1 Tryd.underlying36 rfl infoTil) rfl ⟨_, by rw [Hno.out.2], ?_, HB3.out.trans (st.2.1.below (Nat.le_refl _) HB3.out.size)⟩
    rw [Hno.out.1]
    exact emptyT_X _ _ (by rw [st.2.2]; omega)
  · rw [hh, hvt] at hl
    have Hyes := Lib.hid (st_some htB hst)
    clear hh hvt HC htB hst d0 d1 d2 d3 z0 z1 z2 z3
    go_enter Tryd.func28, Tryd.ntmps28
    go_wp2_with fail
    refine (implReadTiles_any t _ hts (HML.out.below HB3.out) (HTab.out.below HB3.out) (HErr.out.below HB3.out)).mono ?_
    rintro e w4 ⟨v4, rfl, hv4, hb4⟩
    obtain ⟨a, c, b, d, rfl⟩ := hv4.shape
    have hz4 := hb4.size
    have hb5 : Below w4.heap.size w4 (w4.alloc (.cells #[.string (rtV t).letters, .slice a (rtV t).values.length c, .slice b (rtV t).counts.length d, .int .i64 (rtV t).blanks] 36)) := (Below.refl _ _).alloc (Nat.le_refl _) _
    have HB5 := Lib.hid ((HB3.out.trans (hb4.mono HB3.out.size)).trans (hb5.mono (by omega)))
    have hr5 := (hb5.block w.heap.size (by omega)).trans ((hb4.block w.heap.size (by omega)).trans HR3.out)
    have HR5 := Lib.hid hr5
    have HV5 := Lib.hid ((hv4.below hb5).mono (lo' := w.heap.size + 1) (hi' := w4.heap.size) (by omega) (Nat.le_refl _))

    have k0 := cell_newi w4 #[.string (rtV t).letters, .slice a (rtV t).values.length c, .slice b (rtV t).counts.length d, .int .i64 (rtV t).blanks] 36 0 (.string (rtV t).letters) rfl
    have k1 := cell_newi w4 #[.string (rtV t).letters, .slice a (rtV t).values.length c, .slice b (rtV t).counts.length d, .int .i64 (rtV t).blanks] 36 1 (.slice a (rtV t).values.length c) rfl
    have k2 := cell_newi w4 #[.string (rtV t).letters, .slice a (rtV t).values.length c, .slice b (rtV t).counts.length d, .int .i64 (rtV t).blanks] 36 2 (.slice b (rtV t).counts.length d) rfl
    have k3 := cell_newi w4 #[.string (rtV t).letters, .slice a (rtV t).values.length c, .slice b (rtV t).counts.length d, .int .i64 (rtV t).blanks] 36 3 (.int .i64 (rtV t).blanks) rfl
    have hzn : (w4.alloc (.cells #[.string (rtV t).letters, .slice a (rtV t).values.length c, .slice b (rtV t).counts.length d, .int .i64 (rtV t).blanks] 36)).heap.size = w4.heap.size + 1 := by simp
    have d0 : (w4.alloc (.cells #[.string (rtV t).letters, .slice a (rtV t).values.length c, .slice b (rtV t).counts.length d, .int .i64 (rtV t).blanks] 36)).cell? ⟨w.heap.size, 0, none⟩ = some (.string ⟨#[]⟩) := (box_cell (i := 0) hr5 rfl).1
    have d1 : (w4.alloc (.cells #[.string (rtV t).letters, .slice a (rtV t).values.length c, .slice b (rtV t).counts.length d, .int .i64 (rtV t).blanks] 36)).cell? ⟨w.heap.size, 1, none⟩ = some (.slice none 0 0) := (box_cell (i := 1) hr5 rfl).1
    have d2 : (w4.alloc (.cells #[.string (rtV t).letters, .slice a (rtV t).values.length c, .slice b (rtV t).counts.length d, .int .i64 (rtV t).blanks] 36)).cell? ⟨w.heap.size, 2, none⟩ = some (.slice none 0 0) := (box_cell (i := 2) hr5 rfl).1
    have d3 : (w4.alloc (.cells #[.string (rtV t).letters, .slice a (rtV t).values.length c, .slice b (rtV t).counts.length d, .int .i64 (rtV t).blanks] 36)).cell? ⟨w.heap.size, 3, none⟩ = some (.int .i64 0) := (box_cell (i := 3) hr5 rfl).1
    have z0 : (w4.alloc (.cells #[.string (rtV t).letters, .slice a (rtV t).values.length c, .slice b (rtV t).counts.length d, .int .i64 (rtV t).blanks] 36)).frozen? ⟨w.heap.size, 0, none⟩ = false := (box_cell (i := 0) hr5 rfl).2
    have z1 : (w4.alloc (.cells #[.string (rtV t).letters, .slice a (rtV t).values.length c, .slice b (rtV t).counts.length d, .int .i64 (rtV t).blanks] 36)).frozen? ⟨w.heap.size, 1, none⟩ = false := (box_cell (i := 1) hr5 rfl).2
    have z2 : (w4.alloc (.cells #[.string (rtV t).letters, .slice a (rtV t).values.length c, .slice b (rtV t).counts.length d, .int .i64 (rtV t).blanks] 36)).frozen? ⟨w.heap.size, 2, none⟩ = false := (box_cell (i := 2) hr5 rfl).2
    have z3 : (w4.alloc (.cells #[.string (rtV t).letters, .slice a (rtV t).values.length c, .slice b (rtV t).counts.length d, .int .i64 (rtV t).blanks] 36)).frozen? ⟨w.heap.size, 3, none⟩ = false := (box_cell (i := 3) hr5 rfl).2
    clear hr5 hb5 hb4 hv4
    go_wp2
    have st := store4 HR5.out (.string (rtV t).letters) (.slice a (rtV t).values.length c) (.slice b (rtV t).counts.length d) (.int .i64 (rtV t).blanks)
    refine bodyPost_ret (v := .tuple #[.agg #[.string (rtV t).letters, .slice a (rtV t).values.length c, .slice b (rtV t).counts.length d, .int .i64 (rtV t).blanks], .int .i64 0]) (results_cell_rowT (p := 2) (u := 3) (ty := 36) rfl _ _ w.heap.size _ _ _ _ rfl st.1 Tryd.underlying36 rfl infoTil) rfl ⟨_, by rw [Hyes.out.2], ?_, HB5.out.trans (st.2.1.below (Nat.le_refl _) HB5.out.size)⟩
    rw [Hyes.out.1]
    exact (HV5.out.kept st.2.1 (.inr (Nat.le_refl _))).mono (Nat.le_succ _) (by rw [st.2.2]; omega)
theorem readT_Q {l : List UInt8} {x : TileD} (h : readT l = some x) : TilP x := by
  unfold readT at h
  split at h
  · rename_i hx
    cases h
    exact hx.choose_spec.1
  · cases h
theorem rtV_le (s : ByteArray) : cntT (rtV s) ≤ 1048576 := by
  unfold rtV
  cases h : readT s.data.toList with
  | none => simp [emptyT, cntT]
  | some x =>
    have H := readT_Q h
    have := H.lv
    have := H.lc
    have := H.n2
    simp only [cntT, Option.getD_some]
    omega
theorem stV_len (s : ByteArray) : cntT (stV s) ≤ 1048576 := rtV_le (stT s)
end Go.Proofs.YtjgpcmjnmddbkaaDoor
