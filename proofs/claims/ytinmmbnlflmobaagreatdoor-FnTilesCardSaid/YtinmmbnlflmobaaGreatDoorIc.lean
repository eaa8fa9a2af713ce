/- ValidTiles of the program. No condition but the reading. -/
import Derived.Test.YtinmmbnlflmobaaGreatDoorIb
namespace Go.Proofs.YtinmmbnlflmobaaGreatDoor
open Go.RowKit
theorem rise_of {x : TileD} (H : TilP x) : riseB x.letters = true := by
  have hU : UpTo x.letters x.letters.size := fun i _ h => H.up i h
  rw [riseB, decide_eq_true hU, Bool.true_and, smallAll, List.all_eq_true]
  intro c hc
  obtain ⟨i, hi, rfl⟩ := List.getElem_of_mem hc
  exact H.sm i (by simpa using hi)
set_option maxHeartbeats 4000000 in
theorem implValidTiles_any (v : Value) (x : TileD) (w : World) (hv : TilR w v x) :
    Calls Tryz.prog 17 #[v] w fun e w' => e = .returned (.bool (tilB x)) ∧ Below w.heap.size w w' := by
  have hv0 := hv
  obtain ⟨p, c, b, d, rfl⟩ := hv.shape
  have hb0 : Below w.heap.size w (w.alloc (.cells #[.string x.letters, .slice p x.values.length c, .slice b x.counts.length d, .int .i64 x.blanks] 26)) := (Below.refl _ _).alloc (Nat.le_refl _) _
  obtain ⟨s1, s2, e, hl, h1, h2, hbl⟩ := hv0
  simp only [Value.agg.injEq, Array.mk.injEq, List.cons.injEq, and_true, true_and] at e
  obtain ⟨rfl, rfl⟩ := e
  have c1 := cell_newi w #[.string x.letters, .slice p x.values.length c, .slice b x.counts.length d, .int .i64 x.blanks] 26 1 (.slice p x.values.length c) rfl
  have c2 := cell_newi w #[.string x.letters, .slice p x.values.length c, .slice b x.counts.length d, .int .i64 x.blanks] 26 2 (.slice b x.counts.length d) rfl
  have c3 := cell_newi w #[.string x.letters, .slice p x.values.length c, .slice b x.counts.length d, .int .i64 x.blanks] 26 3 (.int .i64 x.blanks) rfl
  obtain ⟨a', c', e1, -, hcm, hcs⟩ := h1.shape
  injection e1 with e1 e2 e3
  subst e1
  subst e3
  obtain ⟨b', d', e1, -, hdm, hds⟩ := h2.shape
  injection e1 with e1 e2 e3
  subst e1
  subst e3
  have Hl := Lib.hid hl
  unfold maxLen at hl hcm hdm
  clear h1 h2 e2 hv
  by_cases hN : 1 ≤ x.letters.size
  · cases hR : riseB x.letters
    · have HR := Lib.hid hR
      go_enter Tryz.func17, Tryz.ntmps17
      go_wp2_with fail
      refine (rising_any _ _ Hl.out).mono ?_
      rw [HR.out]
      rintro e w1 ⟨rfl, hb1⟩
      have hbb := hb0.trans (hb1.mono hb0.size)
      have d1 := cell_below hb1 c1
      have d2 := cell_below hb1 c2
      have d3 := cell_below hb1 c3
      go_wp2
      go_ret
      exact ⟨ret_bool (tilB_false fun H => by have h3 := HR.out; rw [rise_of H] at h3; cases h3), hbb⟩
    · have HR := Lib.hid hR
      have h26 := rise_le hR
      by_cases hV : x.values.length = x.letters.size
      · by_cases hC : x.counts.length = x.letters.size
        · have hv0' : ((x.values.length : Int) != (x.letters.size : Int)) = false := by rw [bne_eq_false_iff_eq]; omega
          have hc0' : ((x.counts.length : Int) != (x.letters.size : Int)) = false := by rw [bne_eq_false_iff_eq]; omega
          have HV := Lib.hid hV
          have HC := Lib.hid hC
          clear hV hC hR
          cases hB : inI x.blanks 0 4
          · have HB := Lib.hid hB
            go_enter Tryz.func17, Tryz.ntmps17
            go_wp2_with fail
            refine (rising_any _ _ Hl.out).mono ?_
            rw [HR.out]
            rintro e w1 ⟨rfl, hb1⟩
            have hbb := hb0.trans (hb1.mono hb0.size)
            have d1 := cell_below hb1 c1
            have d2 := cell_below hb1 c2
            have d3 := cell_below hb1 c3
            go_wp2_with fail
            refine (within_any _ _ _ _).mono ?_
            rw [HB.out]
            rintro e w2 ⟨rfl, rfl⟩
            go_wp2
            go_ret
            exact ⟨ret_bool (tilB_false fun H => by have h2 := HB.out; rw [inI_of H.b0 H.b4] at h2; cases h2), hbb⟩
          · have HB := Lib.hid hB
            have B0 := (inI_to hB).1
            have B4 := (inI_to hB).2
            clear hB
            go_enter Tryz.func17, Tryz.ntmps17
            go_wp2_with fail
            refine (rising_any _ _ Hl.out).mono ?_
            rw [HR.out]
            rintro e w1 ⟨rfl, hb1⟩
            have hbb := hb0.trans (hb1.mono hb0.size)
            have d1 := cell_below hb1 c1
            have d2 := cell_below hb1 c2
            have d3 := cell_below hb1 c3
            go_wp2_with fail
            refine (within_any _ _ _ _).mono ?_
            rw [HB.out]
            rintro e w2 ⟨rfl, rfl⟩
            clear c1 c2 c3 hb0 hb1
            go_wp2
            go_loopw [4, 43] (fun t i wr => ∃ j : Nat, j ≤ x.counts.length ∧ i = .int .i64 (j : Int) ∧ t = .int .i64 (x.blanks + (x.counts.take j).sum) ∧ wr = w1 ∧ TilTo x j) (fun _ i _ => x.counts.length - (intOf i).toNat)
            case atStart => exact ⟨0, by omega, rfl, by simp, rfl, ⟨fun i h => by omega, fun i h => by omega, fun i h => by omega, fun i h => by omega⟩⟩
            case round =>
              obtain ⟨j, hj, rfl, rfl, rfl, hto⟩ := hrel
              have Hto := Lib.hid hto
              clear hto
              by_cases hlt : j < x.counts.length
              · have hltv : j < x.values.length := by have := HV.out; have := HC.out; omega
                have hltl : j < x.letters.size := by have := HC.out; omega
                obtain ⟨b1, o1, rfl, hc1, hs1⟩ := hcs j hltv
                obtain ⟨b2, o2, rfl, hc2, hs2⟩ := hds j hlt
                have hw1 := (hbb.cell (p := ⟨b1, o1 + j, none⟩) (cell_lt hc1)).trans hc1
                have hw2 := (hbb.cell (p := ⟨b2, o2 + j, none⟩) (cell_lt hc2)).trans hc2
                clear hcs hds hc1 hc2
                obtain ⟨hsum1, hsum2⟩ := TilTo.sum_le2 Hto.out (by omega) (by omega) B0 B4
                cases hv : inI x.values[j] 0 20
                · have Hv := Lib.hid hv
                  go_wp2_with fail
                  refine (within_any _ _ _ _).mono ?_
                  rw [Hv.out]
                  rintro e w2 ⟨rfl, rfl⟩
                  go_wp2
                  go_ret
                  exact ⟨ret_bool (tilB_false fun H => by have := H.va j hltv; have h2 := Hv.out; rw [inI_of this.1 this.2] at h2; cases h2), hbb⟩
                · have Hv := Lib.hid hv
                  cases hc : inI x.counts[j] 1 20
                  · have Hc := Lib.hid hc
                    go_wp2_with fail
                    refine (within_any _ _ _ _).mono ?_
                    rw [Hv.out]
                    rintro e w2 ⟨rfl, rfl⟩
                    go_wp2_with fail
                    refine (within_any _ _ _ _).mono ?_
                    rw [Hc.out]
                    rintro e w2 ⟨rfl, rfl⟩
                    go_wp2
                    go_ret
                    exact ⟨ret_bool (tilB_false fun H => by have := H.co j hlt; have h2 := Hc.out; rw [inI_of this.1 this.2] at h2; cases h2), hbb⟩
                  · have Hc := Lib.hid hc
                    obtain ⟨hcb1, hcb2⟩ := inI_to hc
                    go_wp2_with fail
                    refine (within_any _ _ _ _).mono ?_
                    rw [Hv.out]
                    rintro e w2 ⟨rfl, rfl⟩
                    go_wp2_with fail
                    refine (within_any _ _ _ _).mono ?_
                    rw [Hc.out]
                    rintro e w2 ⟨rfl, rfl⟩
                    go_wp2
                    go_roundw
                    case rel => exact ⟨j + 1, by omega, by go_num, by rw [sum_take x.counts j hlt, ← Int.add_assoc], trivial, Hto.out.succ hltl hltv hlt (rise_small HR.out j hltl) (fun k e h => rise_up HR.out k h h) (inI_to Hv.out) (inI_to Hc.out)⟩
                    case measure => simp [intOf]; omega
              · go_wp2
                go_ret
                obtain rfl : j = x.counts.length := by omega
                have h3 := Hto.out
                rw [HC.out] at h3
                exact ⟨ret_bool (by rw [HC.out]; exact tilB_end h3 hN h26 HV.out HC.out B0 B4), hbb⟩
        · have hv0' : ((x.values.length : Int) != (x.letters.size : Int)) = false := by rw [bne_eq_false_iff_eq]; omega
          have hc0' : ((x.counts.length : Int) != (x.letters.size : Int)) = true := by rw [bne_iff_ne]; omega
          have HC := Lib.hid hC
          clear hV hC hR
          go_enter Tryz.func17, Tryz.ntmps17
          go_wp2_with fail
          refine (rising_any _ _ Hl.out).mono ?_
          rw [HR.out]
          rintro e w1 ⟨rfl, hb1⟩
          have hbb := hb0.trans (hb1.mono hb0.size)
          have d1 := cell_below hb1 c1
          have d2 := cell_below hb1 c2
          have d3 := cell_below hb1 c3
          go_wp2
          go_ret
          exact ⟨ret_bool (tilB_false fun H => HC.out H.lc), hbb⟩
      · have hv0' : ((x.values.length : Int) != (x.letters.size : Int)) = true := by rw [bne_iff_ne]; omega
        have HV := Lib.hid hV
        clear hV hR
        go_enter Tryz.func17, Tryz.ntmps17
        go_wp2_with fail
        refine (rising_any _ _ Hl.out).mono ?_
        rw [HR.out]
        rintro e w1 ⟨rfl, hb1⟩
        have hbb := hb0.trans (hb1.mono hb0.size)
        have d1 := cell_below hb1 c1
        have d2 := cell_below hb1 c2
        have d3 := cell_below hb1 c3
        go_wp2
        go_ret
        exact ⟨ret_bool (tilB_false fun H => HV.out H.lv), hbb⟩
  · go_enter Tryz.func17, Tryz.ntmps17
    go_wp2
    go_ret
    exact ⟨ret_bool (tilB_false fun H => hN H.n1), hb0⟩
end Go.Proofs.YtinmmbnlflmobaaGreatDoor
