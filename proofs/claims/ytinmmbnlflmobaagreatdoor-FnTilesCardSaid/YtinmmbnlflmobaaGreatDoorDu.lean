/- A drawn tile set out of bytes: A2Tiles. Conditions: at most 5000 bytes; what StandardTiles asks. -/
import Derived.Test.YtinmmbnlflmobaaGreatDoorDe
import Derived.Test.YtinmmbnlflmobaaGreatDoorBy
set_option linter.unusedSimpArgs false
namespace Go.Proofs.YtinmmbnlflmobaaGreatDoor
open Go.RowKit
theorem textV_le {x : TileD} (H : TilP x) : (textV x).size ≤ 1048576 := by
  rw [textV_yes (tilB_P' H)]
  have h1 := textTo_le2 H x.letters.size (Nat.le_refl _)
  have h2 := itoa_le H.b0 (by have := H.b4; omega)
  show (textL x).toArray.size ≤ 1048576
  unfold textL
  simp only [List.size_toArray, List.length_append]
  split <;> simp only [List.length_cons, List.length_nil] <;> omega
attribute [local irreducible] Calls
set_option maxHeartbeats 4000000 in
set_option maxRecDepth 20000 in
theorem a2Tiles_any (v : Value) (bs : List UInt8) (w : World) (hv : BytesR w v bs) (hl : bs.length ≤ 5000) (hML : MaxL w) (hTab : TabP w) (hErr : ErrV w) :
    Calls Tryz.prog 5 #[v] w fun e w' => ∃ v' : Value, e = .returned v' ∧ (∃ x : TileD, TilR w' v' x ∧ TilP x) ∧ Below w.heap.size w w' := by
  have hb0 : Below w.heap.size w (w.alloc (.cells #[.string ⟨#[]⟩, .slice none 0 0, .slice none 0 0, .int .i64 0] 26)) := one_belowD _ _
  have HB0 := Lib.hid hb0
  have rA := heap_alloc_new w (.cells #[.string ⟨#[]⟩, .slice none 0 0, .slice none 0 0, .int .i64 0] 26)
  have hv0 := hv.below hb0
  have hz0 : w.heap.size < (w.alloc (.cells #[.string ⟨#[]⟩, .slice none 0 0, .slice none 0 0, .int .i64 0] 26)).heap.size := by simp
  have HML := Lib.hid hML
  have HTab := Lib.hid hTab
  have HErr := Lib.hid hErr
  obtain ⟨pa, pc, rfl, hcl, hcm⟩ := hv.shape
  have HV := Lib.hid hv0
  clear hv hv0 hML hTab hErr
  go_enter Tryz.func5, Tryz.ntmps5
  go_wp2_with fail
  refine (l00From_any _ bs _ HV.out hl).mono ?_
  rintro e w1 ⟨rfl, hs1, hb1⟩
  have HB1 := Lib.hid (HB0.out.trans (hb1.mono HB0.out.size))
  have HR1 := Lib.hid ((hb1.block w.heap.size hz0).trans rA)
  have HS1 := Lib.hid hs1
  have hz1 := hb1.size
  generalize (w.alloc (.cells #[.string ⟨#[]⟩, .slice none 0 0, .slice none 0 0, .int .i64 0] 26)).heap.size = g at hz0 HS1 hz1 ⊢
  clear hs1 hb1 rA
  go_wp2_with fail
  refine (l02Draw_any w g bs 0 w1 HS1.out (by omega) HML.out HTab.out HErr.out HB1.out (by omega)).mono ?_
  rintro e w2 ⟨v2, rfl, ⟨x, hx, hP⟩, hk2⟩
  have HX := Lib.hid hx
  have HP := Lib.hid hP
  obtain ⟨s1, s2, rfl, hl4, i1, i2, i3⟩ := hx
  obtain ⟨a1, n1, rfl, -, -, -⟩ := i1.read.shape
  obtain ⟨a2, n2, rfl, -, -, -⟩ := i2.read.shape
  have HR2 := Lib.hid ((hk2.block w.heap.size (by omega) (.inl (by omega))).trans HR1.out)
  have HB2 := Lib.hid (HB1.out.trans (hk2.below (by omega) (by omega)))
  obtain ⟨d0, y0⟩ := box_cell (i := 0) (v := .string ⟨#[]⟩) HR2.out rfl
  obtain ⟨d1, y1⟩ := box_cell (i := 1) (v := .slice none 0 0) HR2.out rfl
  obtain ⟨d2, y2⟩ := box_cell (i := 2) (v := .slice none 0 0) HR2.out rfl
  obtain ⟨d3, y3⟩ := box_cell (i := 3) (v := .int .i64 0) HR2.out rfl
  clear hk2 i1 i2 i3
  go_wp2
  have st := store4 HR2.out (.string x.letters) (.slice a1 x.values.length n1) (.slice a2 x.counts.length n2) (.int .i64 x.blanks)
  refine bodyPost_ret (v := .agg #[.string x.letters, .slice a1 x.values.length n1, .slice a2 x.counts.length n2, .int .i64 x.blanks]) (results_cell_row (p := 2) (ty := 26) rfl _ _ w.heap.size _ _ _ _ rfl st.1 Tryz.underlying26 rfl infoTil) rfl ⟨_, rfl, ⟨x, ?_, HP.out⟩, HB2.out.trans (st.2.1.below (Nat.le_refl _) HB2.out.size)⟩
  exact (HX.out.kept st.2.1 (.inr (by omega))).read
end Go.Proofs.YtinmmbnlflmobaaGreatDoor
