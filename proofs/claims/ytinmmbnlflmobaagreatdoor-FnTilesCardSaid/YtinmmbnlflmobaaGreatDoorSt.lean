/- StandardTiles of both sides. Condition: what the row lists. -/
import Derived.Test.YtinmmbnlflmobaaGreatDoorTp
import Derived.Test.YtinmmbnlflmobaaGreatDoorStL
import Derived.Maps.OwnSet
import Derived.Maps.StringElems
namespace Go.Proofs.YtinmmbnlflmobaaGreatDoor
open Go.RowKit
/-- What StandardTiles gives. -/
noncomputable def stV (s : ByteArray) : TileD := rtV (stT s)
noncomputable def stE (s : ByteArray) : Int := if rtB (stT s) then 0 else 3
theorem st_none {s : ByteArray} (h : rtB (stT s) = false) : stV s = emptyT ∧ stE s = 3 := by
  unfold stV stE
  refine ⟨?_, by rw [h]; rfl⟩
  unfold rtB at h
  unfold rtV
  cases hr : readT (stT s).data.toList with
  | none => rfl
  | some x => rw [hr] at h; cases h
theorem st_some {s t : ByteArray} (h : rtB t = true) (ht : stT s = t) : stV s = rtV t ∧ stE s = 0 := by
  unfold stV stE; rw [ht, h]; exact ⟨rfl, rfl⟩
theorem rtB_eng : rtB engB = true := (rt_some read_eng).2
theorem rtB_sma : rtB smaB = true := (rt_some read_sma).2
theorem rtB_nil : rtB ⟨#[]⟩ = false := (rt_none read_nil).2
theorem stT_le (s : ByteArray) : (stT s).size ≤ 1048576 := by
  unfold stT
  split
  · decide +kernel
  · split
    · decide +kernel
    · decide +kernel
theorem list_ne {a b : ByteArray} (h : a ≠ b) : (a.toList == b.toList) = false := by
  rw [beq_eq_false_iff_ne, Lib.toList_data, Lib.toList_data]; intro e; exact h (ba_inj e)
attribute [local irreducible] Calls
set_option maxHeartbeats 2000000 in
set_option maxRecDepth 20000 in
theorem l02Standard_any (s : ByteArray) (w : World) : Calls Tryz.prog 49 #[.string s] w fun e w' => e = .returned (.string (stT s)) ∧ w' = w := by
  have e1 : engN.toList = [101, 110, 103, 108, 105, 115, 104] := by rw [Lib.toList_data]; rfl
  have e2 : smaN.toList = [115, 109, 97, 108, 108] := by rw [Lib.toList_data]; rfl
  by_cases h1 : s = engN
  · have q1 : (s.toList == [101, 110, 103, 108, 105, 115, 104]) = true := by rw [h1, e1]; rfl
    have Hs := Lib.hid (show stT s = engB by rw [h1, stT_eng])
    clear h1 e1 e2
    go_enter Tryz.func49, Tryz.ntmps49
    go_wp2
    go_ret
    exact ⟨ret_str (by rw [Hs.out]; decide +kernel), rfl⟩
  · have q1 : (s.toList == [101, 110, 103, 108, 105, 115, 104]) = false := by rw [← e1]; exact list_ne h1
    by_cases h2 : s = smaN
    · have q2 : (s.toList == [115, 109, 97, 108, 108]) = true := by rw [h2, e2]; rfl
      have Hs := Lib.hid (show stT s = smaB by rw [h2, stT_sma])
      clear h1 h2 e1 e2
      go_enter Tryz.func49, Tryz.ntmps49
      go_wp2
      go_ret
      exact ⟨ret_str (by rw [Hs.out]; decide +kernel), rfl⟩
    · have q2 : (s.toList == [115, 109, 97, 108, 108]) = false := by rw [← e2]; exact list_ne h2
      have Hs := Lib.hid (stT_no h1 h2)
      clear h1 h2 e1 e2
      go_enter Tryz.func49, Tryz.ntmps49
      go_wp2
      go_ret
      exact ⟨ret_str (by rw [Hs.out]), rfl⟩
set_option maxHeartbeats 4000000 in
set_option maxRecDepth 20000 in
theorem specStandardTiles_any (s : ByteArray) (w : World) (_hs : s.size ≤ 1048576) (_hML : MaxL w) (_hTab : TabP w) (_hErr : ErrV w) :
    Calls Tryz.prog 30 #[.string s] w fun e w' => ∃ v', e = .returned (.tuple #[v', .int .i64 (stE s)]) ∧ TilX w' w.heap.size w'.heap.size v' (stV s) ∧ Below w.heap.size w w' := by
  have hb0 : Below w.heap.size w (w.alloc (.cells #[.string ⟨#[]⟩, .slice none 0 0, .slice none 0 0, .int .i64 0] 26)) := (Below.refl _ _).alloc (Nat.le_refl _) _
  have r0 := heap_alloc_new w (.cells #[.string ⟨#[]⟩, .slice none 0 0, .slice none 0 0, .int .i64 0] 26)
  go_enter Tryz.func30, Tryz.ntmps30
  go_wp2_with fail
  refine (l02Standard_any s _).mono ?_
  rintro e wq ⟨rfl, hwq⟩
  subst hwq
  go_wp2_with fail
  refine (l02Read_any (stT s) _ (stT_le s)).mono ?_
  rintro e w1 ⟨v1, rfl, hv1, hb1⟩
  have hz1 : w.heap.size + 1 ≤ w1.heap.size := by have := hb1.size; simpa using this
  have hr1 := (hb1.block (w.heap.size) (by simp)).trans r0
  obtain ⟨a, c, b, d, rfl⟩ := hv1.shape
  rw [World.size_alloc] at hv1
  have hb2 : Below w1.heap.size w1 (w1.alloc (.cells #[.string (rtV (stT s)).letters, .slice a (rtV (stT s)).values.length c, .slice b (rtV (stT s)).counts.length d, .int .i64 (rtV (stT s)).blanks] 26)) := (Below.refl _ _).alloc (Nat.le_refl _) _
  have HB1 := Lib.hid ((hb0.trans (hb1.mono hb0.size)).trans (hb2.mono (by omega)))
  have hr2 := (hb2.block w.heap.size (by omega)).trans hr1
  have HR1 := Lib.hid hr2
  have HV1 := Lib.hid ((hv1.below hb2).mono (lo' := w.heap.size + 1) (hi' := w1.heap.size) (Nat.le_refl _) (Nat.le_refl _))

  have k0 := cell_newi w1 #[.string (rtV (stT s)).letters, .slice a (rtV (stT s)).values.length c, .slice b (rtV (stT s)).counts.length d, .int .i64 (rtV (stT s)).blanks] 26 0 (.string (rtV (stT s)).letters) rfl
  have k1 := cell_newi w1 #[.string (rtV (stT s)).letters, .slice a (rtV (stT s)).values.length c, .slice b (rtV (stT s)).counts.length d, .int .i64 (rtV (stT s)).blanks] 26 1 (.slice a (rtV (stT s)).values.length c) rfl
  have k2 := cell_newi w1 #[.string (rtV (stT s)).letters, .slice a (rtV (stT s)).values.length c, .slice b (rtV (stT s)).counts.length d, .int .i64 (rtV (stT s)).blanks] 26 2 (.slice b (rtV (stT s)).counts.length d) rfl
  have k3 := cell_newi w1 #[.string (rtV (stT s)).letters, .slice a (rtV (stT s)).values.length c, .slice b (rtV (stT s)).counts.length d, .int .i64 (rtV (stT s)).blanks] 26 3 (.int .i64 (rtV (stT s)).blanks) rfl
  have hzn : (w1.alloc (.cells #[.string (rtV (stT s)).letters, .slice a (rtV (stT s)).values.length c, .slice b (rtV (stT s)).counts.length d, .int .i64 (rtV (stT s)).blanks] 26)).heap.size = w1.heap.size + 1 := by simp
  have d0 : (w1.alloc (.cells #[.string (rtV (stT s)).letters, .slice a (rtV (stT s)).values.length c, .slice b (rtV (stT s)).counts.length d, .int .i64 (rtV (stT s)).blanks] 26)).cell? ⟨w.heap.size, 0, none⟩ = some (.string ⟨#[]⟩) := (box_cell (i := 0) hr2 rfl).1
  have d1 : (w1.alloc (.cells #[.string (rtV (stT s)).letters, .slice a (rtV (stT s)).values.length c, .slice b (rtV (stT s)).counts.length d, .int .i64 (rtV (stT s)).blanks] 26)).cell? ⟨w.heap.size, 1, none⟩ = some (.slice none 0 0) := (box_cell (i := 1) hr2 rfl).1
  have d2 : (w1.alloc (.cells #[.string (rtV (stT s)).letters, .slice a (rtV (stT s)).values.length c, .slice b (rtV (stT s)).counts.length d, .int .i64 (rtV (stT s)).blanks] 26)).cell? ⟨w.heap.size, 2, none⟩ = some (.slice none 0 0) := (box_cell (i := 2) hr2 rfl).1
  have d3 : (w1.alloc (.cells #[.string (rtV (stT s)).letters, .slice a (rtV (stT s)).values.length c, .slice b (rtV (stT s)).counts.length d, .int .i64 (rtV (stT s)).blanks] 26)).cell? ⟨w.heap.size, 3, none⟩ = some (.int .i64 0) := (box_cell (i := 3) hr2 rfl).1
  have z0 : (w1.alloc (.cells #[.string (rtV (stT s)).letters, .slice a (rtV (stT s)).values.length c, .slice b (rtV (stT s)).counts.length d, .int .i64 (rtV (stT s)).blanks] 26)).frozen? ⟨w.heap.size, 0, none⟩ = false := (box_cell (i := 0) hr2 rfl).2
  have z1 : (w1.alloc (.cells #[.string (rtV (stT s)).letters, .slice a (rtV (stT s)).values.length c, .slice b (rtV (stT s)).counts.length d, .int .i64 (rtV (stT s)).blanks] 26)).frozen? ⟨w.heap.size, 1, none⟩ = false := (box_cell (i := 1) hr2 rfl).2
  have z2 : (w1.alloc (.cells #[.string (rtV (stT s)).letters, .slice a (rtV (stT s)).values.length c, .slice b (rtV (stT s)).counts.length d, .int .i64 (rtV (stT s)).blanks] 26)).frozen? ⟨w.heap.size, 2, none⟩ = false := (box_cell (i := 2) hr2 rfl).2
  have z3 : (w1.alloc (.cells #[.string (rtV (stT s)).letters, .slice a (rtV (stT s)).values.length c, .slice b (rtV (stT s)).counts.length d, .int .i64 (rtV (stT s)).blanks] 26)).frozen? ⟨w.heap.size, 3, none⟩ = false := (box_cell (i := 3) hr2 rfl).2
  cases hB : rtB (stT s)
  · have Hno := Lib.hid (st_none hB)
    have HBf := Lib.hid hB
    go_wp2
    have st := store4 HR1.out (.string ⟨#[]⟩) (.slice none 0 0) (.slice none 0 0) (.int .i64 0)
    refine bodyPost_ret (v := .tuple #[.agg #[.string ⟨#[]⟩, .slice none 0 0, .slice none 0 0, .int .i64 0], .int .i64 3]) (results_cell_rowT (p := 2) (u := 3) (ty := 26) rfl _ _ w.heap.size _ _ _ _ rfl st.1 Tryz.underlying26 rfl infoTil) rfl ⟨_, by rw [Hno.out.2], ?_, HB1.out.trans (st.2.1.below (Nat.le_refl _) HB1.out.size)⟩
    rw [Hno.out.1]
    exact emptyT_X _ _ (by rw [st.2.2]; omega)
  · have Hyes := Lib.hid (st_some hB rfl)
    go_wp2
    have st := store4 HR1.out (.string (rtV (stT s)).letters) (.slice a (rtV (stT s)).values.length c) (.slice b (rtV (stT s)).counts.length d) (.int .i64 (rtV (stT s)).blanks)
    refine bodyPost_ret (v := .tuple #[.agg #[.string (rtV (stT s)).letters, .slice a (rtV (stT s)).values.length c, .slice b (rtV (stT s)).counts.length d, .int .i64 (rtV (stT s)).blanks], .int .i64 0]) (results_cell_rowT (p := 2) (u := 3) (ty := 26) rfl _ _ w.heap.size _ _ _ _ rfl st.1 Tryz.underlying26 rfl infoTil) rfl ⟨_, by rw [Hyes.out.2], ?_, HB1.out.trans (st.2.1.below (Nat.le_refl _) HB1.out.size)⟩
    rw [Hyes.out.1]
    exact (HV1.out.kept st.2.1 (.inr (Nat.le_refl _))).mono (Nat.le_succ _) (by rw [st.2.2]; omega)

theorem zeroStr (w : World) : (zeroValue 9).run Tryz.prog w = .ok (.string ByteArray.empty) w := by kernel_rfl
theorem readT_Q {l : List UInt8} {x : TileD} (h : readT l = some x) : TilP x := by
  unfold readT at h
  split at h
  · rename_i hx
    cases h
    exact hx.choose_spec.1
  · cases h
theorem rtV_le (s : ByteArray) : cntT (rtV s) ≤ 1048576 := by
  unfold rtV
  cases h : readT s.data.toList with
  | none => simp [emptyT, cntT]
  | some x =>
    have H := readT_Q h
    have := H.lv
    have := H.lc
    have := H.n2
    simp only [cntT, Option.getD_some]
    omega
theorem stV_len (s : ByteArray) : cntT (stV s) ≤ 1048576 := rtV_le (stT s)
end Go.Proofs.YtinmmbnlflmobaaGreatDoor
