/- What the laws on tile sets call: l02Ok. No condition but the readings. -/
import Derived.Test.YtinmmbnlflmobaaGreatDoorIs
namespace Go.Proofs.YtinmmbnlflmobaaGreatDoor
open Go.RowKit
/-- What a valid tile set is. -/
structure TilP (x : TileD) : Prop where
  n1 : 1 ≤ x.letters.size
  n2 : x.letters.size ≤ 26
  lv : x.values.length = x.letters.size
  lc : x.counts.length = x.letters.size
  b0 : 0 ≤ x.blanks
  b4 : x.blanks ≤ 4
  sm : ∀ i, (h : i < x.letters.size) → smallI x.letters[i].toNat = true
  up : ∀ i, (h : i + 1 < x.letters.size) → x.letters[i].toNat < x.letters[i + 1].toNat
  va : ∀ i, (h : i < x.values.length) → 0 ≤ x.values[i] ∧ x.values[i] ≤ 20
  co : ∀ i, (h : i < x.counts.length) → 1 ≤ x.counts[i] ∧ x.counts[i] ≤ 20
  su : x.blanks + x.counts.sum ≤ 120
/-- The same of the first j letters. -/
structure TilTo (x : TileD) (j : Nat) : Prop where
  sm : ∀ i, i < j → (h : i < x.letters.size) → smallI x.letters[i].toNat = true
  up : ∀ i, i + 1 < j → (h : i + 1 < x.letters.size) → x.letters[i].toNat < x.letters[i + 1].toNat
  va : ∀ i, i < j → (h : i < x.values.length) → 0 ≤ x.values[i] ∧ x.values[i] ≤ 20
  co : ∀ i, i < j → (h : i < x.counts.length) → 1 ≤ x.counts[i] ∧ x.counts[i] ≤ 20
noncomputable instance (x : TileD) : Decidable (TilP x) := Classical.propDecidable _
noncomputable def tilB (x : TileD) : Bool := decide (TilP x)
theorem tilB_false {x : TileD} (h : ¬ TilP x) : false = tilB x := by unfold tilB; exact (decide_eq_false h).symm
theorem tilB_true {x : TileD} (h : TilP x) : true = tilB x := by unfold tilB; exact (decide_eq_true h).symm
theorem tilB_P {x : TileD} (h : tilB x = true) : TilP x := by unfold tilB at h; exact of_decide_eq_true h
theorem inI_of {n l h : Int} (h1 : l ≤ n) (h2 : n ≤ h) : inI n l h = true := by simp [inI, h1, h2]
theorem inI_to {n l h : Int} (e : inI n l h = true) : l ≤ n ∧ n ≤ h := by simpa [inI] using e
theorem sum_take (l : List Int) (j : Nat) (h : j < l.length) : (l.take (j + 1)).sum = (l.take j).sum + l[j] := by
  rw [List.take_succ_eq_append_getElem h, List.sum_append]; simp
theorem TilTo.sum_le {x : TileD} {j : Nat} (h : TilTo x j) (hj : j ≤ x.counts.length) (b0 : 0 ≤ x.blanks) (b4 : x.blanks ≤ 4) : 0 ≤ x.blanks + (x.counts.take j).sum ∧ x.blanks + (x.counts.take j).sum ≤ 4 + 20 * (j : Int) := by
  induction j with
  | zero => simp; omega
  | succ j ih =>
    have := ih ⟨fun i hi => h.sm i (by omega), fun i hi => h.up i (by omega), fun i hi => h.va i (by omega), fun i hi => h.co i (by omega)⟩ (by omega)
    have h2 := h.co j (by omega) (by omega)
    rw [sum_take _ _ (by omega)]
    omega
theorem TilTo.sum_le2 {x : TileD} {j : Nat} (h : TilTo x j) (hj : j ≤ x.counts.length) (h26 : j ≤ 26) (b0 : 0 ≤ x.blanks) (b4 : x.blanks ≤ 4) : 0 ≤ x.blanks + (x.counts.take j).sum ∧ x.blanks + (x.counts.take j).sum ≤ 524 := by
  have := h.sum_le hj b0 b4
  omega
theorem TilTo.succ {x : TileD} {j : Nat} (h : TilTo x j) (hj : j < x.letters.size) (hv : j < x.values.length) (hc : j < x.counts.length) (hs : smallI x.letters[j].toNat = true)
    (hu : ∀ k, k + 1 = j → (h : k + 1 < x.letters.size) → x.letters[k].toNat < x.letters[k + 1].toNat) (h1 : 0 ≤ x.values[j] ∧ x.values[j] ≤ 20) (h2 : 1 ≤ x.counts[j] ∧ x.counts[j] ≤ 20) : TilTo x (j + 1) := by
  refine ⟨fun i hi hl => ?_, fun i hi hl => ?_, fun i hi hl => ?_, fun i hi hl => ?_⟩
  · by_cases e : i = j
    · subst e; exact hs
    · exact h.sm i (by omega) hl
  · by_cases e : i + 1 = j
    · exact hu i e hl
    · exact h.up i (by omega) hl
  · by_cases e : i = j
    · subst e; exact h1
    · exact h.va i (by omega) hl
  · by_cases e : i = j
    · subst e; exact h2
    · exact h.co i (by omega) hl
theorem l00In_is {n l h : Int} {b : Bool} (e : inI n l h = b) (w : World) : Calls Tryz.prog 89 #[.int .i64 n, .int .i64 l, .int .i64 h] w fun e w' => e = .returned (.bool b) ∧ w = w' := by
  rw [← e]; exact l00In_any n l h w
theorem up_of {s : ByteArray} {k : Nat} (hk : k + 1 < s.size) (hd : decide (s[k + 1].toNat ≤ s[k].toNat) = false) : ∀ i, i + 1 = k + 1 → (h : i + 1 < s.size) → s[i].toNat < s[i + 1].toNat := by
  intro i e h
  obtain rfl : i = k := by omega
  have := of_decide_eq_false hd
  omega
theorem tilB_end {x : TileD} (h : TilTo x x.letters.size) (hn : 1 ≤ x.letters.size) (hn2 : x.letters.size ≤ 26) (hv : x.values.length = x.letters.size) (hc : x.counts.length = x.letters.size) (b0 : 0 ≤ x.blanks) (b4 : x.blanks ≤ 4) :
    decide (x.blanks + (x.counts.take x.letters.size).sum ≤ 120) = tilB x := by
  rw [← hc, List.take_length]
  unfold tilB
  rw [decide_eq_decide]
  exact ⟨fun h2 => ⟨hn, hn2, hv, hc, b0, b4, fun i hi => h.sm i hi hi, fun i hi => h.up i hi hi, fun i hi => h.va i (by omega) hi, fun i hi => h.co i (by omega) hi, h2⟩, fun h2 => h2.su⟩
attribute [local irreducible] inI Calls
set_option maxHeartbeats 4000000 in
set_option maxRecDepth 8000 in
theorem l02Ok_any (g : Nat) (a : Option Addr) (c : Nat) (b : Option Addr) (d : Nat) (x : TileD) (w : World) (hg0 : w.cell? ⟨g, 0, none⟩ = some (.string x.letters)) (hg1 : w.cell? ⟨g, 1, none⟩ = some (.slice a x.values.length c))
    (hg2 : w.cell? ⟨g, 2, none⟩ = some (.slice b x.counts.length d)) (hg3 : w.cell? ⟨g, 3, none⟩ = some (.int .i64 x.blanks))
    (hl : x.letters.size ≤ maxLen) (h1 : Ints w (.slice a x.values.length c) x.values) (h2 : Ints w (.slice b x.counts.length d) x.counts) (_hbl : I64 x.blanks) :
    Calls Tryz.prog 68 #[.pointer (some ⟨g, 0, none⟩)] w fun e w' => e = .returned (.bool (tilB x)) ∧ ∃ q, w' = w.drewN q := by
  obtain ⟨a', c', e1, -, hcm, hcs⟩ := h1.shape
  injection e1 with e1 e2 e3
  subst e1
  subst e3
  obtain ⟨b', d', e1, -, hdm, hds⟩ := h2.shape
  injection e1 with e1 e2 e3
  subst e1
  subst e3
  unfold maxLen at hl hcm hdm
  have hlv1 := h1.shape
  have hIn := fun (n l h : Int) (w0 : World) => l00In_any n l h w0
  clear hlv1 h1 h2 e2
  cases hA : inI x.letters.size 1 26
  · have HA := Lib.hid hA
    go_enter Tryz.func68, Tryz.ntmps68
    go_wp2_with fail
    refine (l00In_any _ _ _ _).mono ?_
    rw [hA]
    rintro e w1 ⟨rfl, rfl⟩
    go_wp2
    go_ret
    exact ⟨ret_bool (tilB_false fun H => by have h2 := HA.out; rw [inI_of (by have := H.n1; omega) (by have := H.n2; omega)] at h2; cases h2), 0, rfl⟩
  · have HA := Lib.hid hA
    have hA2 := inI_to hA
    by_cases hV : x.values.length = x.letters.size
    · by_cases hC : x.counts.length = x.letters.size
      · cases hB : inI x.blanks 0 4
        · have HB := Lib.hid hB
          have hv0 : ((x.values.length : Int) != (x.letters.size : Int)) = false := by rw [bne_eq_false_iff_eq]; omega
          have hc0 : ((x.counts.length : Int) != (x.letters.size : Int)) = false := by rw [bne_eq_false_iff_eq]; omega
          clear hV hC
          go_enter Tryz.func68, Tryz.ntmps68
          go_wp2_with fail
          refine (l00In_any _ _ _ _).mono ?_
          rw [hA]
          rintro e w1 ⟨rfl, rfl⟩
          go_wp2_with fail
          refine (l00In_any _ _ _ _).mono ?_
          rw [hB]
          rintro e w1 ⟨rfl, rfl⟩
          go_wp2
          go_ret
          exact ⟨ret_bool (tilB_false fun H => by have h2 := HB.out; rw [inI_of H.b0 H.b4] at h2; cases h2), 0, rfl⟩
        · have HB := Lib.hid hB
          have B0 := (inI_to hB).1
          have B4 := (inI_to hB).2
          have HV := Lib.hid hV
          have HC := Lib.hid hC
          have hv0 : ((x.values.length : Int) != (x.letters.size : Int)) = false := by rw [bne_eq_false_iff_eq]; omega
          have hc0 : ((x.counts.length : Int) != (x.letters.size : Int)) = false := by rw [bne_eq_false_iff_eq]; omega
          clear hV hC
          go_enter Tryz.func68, Tryz.ntmps68
          go_wp2_with fail
          refine (l00In_any _ _ _ _).mono ?_
          rw [hA]
          rintro e w1 ⟨rfl, rfl⟩
          go_wp2_with fail
          refine (l00In_any _ _ _ _).mono ?_
          rw [hB]
          rintro e w1 ⟨rfl, rfl⟩
          go_wp2
          clear hA hB hv0 hc0
          go_loopw [4, 5] (fun t i wr => ∃ j q : Nat, j ≤ x.letters.size ∧ i = .int .i64 (j : Int) ∧ t = .int .i64 (x.blanks + (x.counts.take j).sum) ∧ wr = w.drewN q ∧ TilTo x j) (fun _ i _ => x.letters.size - (intOf i).toNat)
          case atStart => exact ⟨0, 0, by omega, rfl, by simp, rfl, ⟨fun i h => by omega, fun i h => by omega, fun i h => by omega, fun i h => by omega⟩⟩
          case round =>
            obtain ⟨j, q, hj, rfl, rfl, hw, hto⟩ := hrel
            have k0 : wr.cell? ⟨g, 0, none⟩ = some (.string x.letters) := by rw [hw]; exact hg0
            have k1 : wr.cell? ⟨g, 1, none⟩ = some (.slice a x.values.length c) := by rw [hw]; exact hg1
            have k2 : wr.cell? ⟨g, 2, none⟩ = some (.slice b x.counts.length d) := by rw [hw]; exact hg2
            have k3 : wr.cell? ⟨g, 3, none⟩ = some (.int .i64 x.blanks) := by rw [hw]; exact hg3
            have Hto := Lib.hid hto
            have Hw := Lib.hid hw
            clear hg0 hg1 hg2 hg3 hto hw
            by_cases hlt : j < x.letters.size
            · obtain ⟨b1, o1, rfl, hc1, hs1⟩ := hcs j (by have := HV.out; omega)
              obtain ⟨b2, o2, rfl, hc2, hs2⟩ := hds j (by have := HC.out; omega)
              have hltv : j < x.values.length := by have := HV.out; omega
              have hltc : j < x.counts.length := by have := HC.out; omega
              have hw1 : wr.cell? ⟨b1, o1 + j, none⟩ = some (.int .i64 x.values[j]) := by rw [Hw.out]; exact hc1
              have hw2 : wr.cell? ⟨b2, o2 + j, none⟩ = some (.int .i64 x.counts[j]) := by rw [Hw.out]; exact hc2
              have hq1 := fun w0 => l01Small_any x.letters[j].toNat w0
              clear hcs hds hc1 hc2 hIn
              cases hsm : smallI x.letters[j].toNat
              · have Hsm := Lib.hid hsm
                simp only [hsm] at hq1
                go_wp2
                go_quiet ((first | (go_at_call 64; exact quiet_eq (hq1 _)) | (go_at_call 89; first | exact quiet_eq (l00In_is hv _) | exact quiet_eq (l00In_is hc _))))
                go_wp2
                go_ret
                exact ⟨ret_bool (tilB_false fun H => by have h1 := H.sm j hlt; rw [Hsm.out] at h1; cases h1), q + nq, by rw [Hw.out, drewN_two]⟩
              · have Hsm := Lib.hid hsm
                simp only [hsm] at hq1
                by_cases h0 : 0 < j
                · obtain ⟨k, rfl⟩ : ∃ k, j = k + 1 := ⟨j - 1, by omega⟩
                  have hk : k < x.letters.size := by omega
                  have hk1I : (0 : Int) ≤ (k : Int) + 1 := by omega
                  have hltvI : (k : Int) + 1 < (x.values.length : Int) := by omega
                  have hltcI : (k : Int) + 1 < (x.counts.length : Int) := by omega
                  by_cases hd0 : x.letters[k + 1].toNat ≤ x.letters[k].toNat
                  rotate_left
                  · have Hup := Lib.hid (up_of hlt (decide_eq_false hd0))
                    have hd : (x.letters[k + 1].toNat ≤ x.letters[k].toNat) = False := eq_false hd0
                    clear hd0
                    cases hv : inI x.values[(k + 1)] 0 20
                    · have Hv := Lib.hid hv
                      go_wp2
                      go_quiet ((first | (go_at_call 64; exact quiet_eq (hq1 _)) | (go_at_call 89; first | exact quiet_eq (l00In_is hv _) | exact quiet_eq (l00In_is hc _))))
                      go_wp2
                      go_ret
                      exact ⟨ret_bool (tilB_false fun H => by have := H.va (k + 1) (by omega); have h2 := Hv.out; rw [inI_of this.1 this.2] at h2; cases h2), q + nq, by rw [Hw.out, drewN_two]⟩
                    · have Hv := Lib.hid hv
                      cases hc : inI x.counts[(k + 1)] 1 20
                      · have Hc := Lib.hid hc
                        go_wp2
                        go_quiet ((first | (go_at_call 64; exact quiet_eq (hq1 _)) | (go_at_call 89; first | exact quiet_eq (l00In_is hv _) | exact quiet_eq (l00In_is hc _))))
                        go_wp2
                        go_ret
                        exact ⟨ret_bool (tilB_false fun H => by have := H.co (k + 1) (by omega); have h2 := Hc.out; rw [inI_of this.1 this.2] at h2; cases h2), q + nq, by rw [Hw.out, drewN_two]⟩
                      · have Hc := Lib.hid hc
                        obtain ⟨hcb1, hcb2⟩ := inI_to hc
                        obtain ⟨hsum1, hsum2⟩ := TilTo.sum_le2 Hto.out (by omega) (by omega) B0 B4
                        go_wp2
                        go_quiet ((first | (go_at_call 64; exact quiet_eq (hq1 _)) | (go_at_call 89; first | exact quiet_eq (l00In_is hv _) | exact quiet_eq (l00In_is hc _))))
                        go_wp2
                        go_roundw
                        case rel => exact ⟨(k + 1) + 1, q + nq, by omega, by go_num, by rw [sum_take x.counts (k + 1) (by omega), ← Int.add_assoc], by rw [Hw.out, drewN_two], Hto.out.succ (by omega) (by omega) (by omega) Hsm.out Hup.out (inI_to Hv.out) (inI_to Hc.out)⟩
                        case measure => simp [intOf]; omega
                  · have Hd := Lib.hid hd0
                    have hd : (x.letters[k + 1].toNat ≤ x.letters[k].toNat) = True := eq_true hd0
                    clear hd0
                    go_wp2
                    go_quiet ((first | (go_at_call 64; exact quiet_eq (hq1 _)) | (go_at_call 89; first | exact quiet_eq (l00In_is hv _) | exact quiet_eq (l00In_is hc _))))
                    go_wp2
                    go_ret
                    exact ⟨ret_bool (tilB_false fun H => by have h1 := H.up k hlt; have h2 := Hd.out; omega), q + nq, by rw [Hw.out, drewN_two]⟩
                · have hd0 : decide (0 < j) = false := by rw [decide_eq_false_iff_not]; omega
                  have Hj := Lib.hid (show j = 0 by omega)
                  clear h0
                  cases hv : inI x.values[j] 0 20
                  · have Hv := Lib.hid hv
                    go_wp2
                    go_quiet ((first | (go_at_call 64; exact quiet_eq (hq1 _)) | (go_at_call 89; first | exact quiet_eq (l00In_is hv _) | exact quiet_eq (l00In_is hc _))))
                    go_wp2
                    go_ret
                    exact ⟨ret_bool (tilB_false fun H => by have := H.va j (by omega); have h2 := Hv.out; rw [inI_of this.1 this.2] at h2; cases h2), q + nq, by rw [Hw.out, drewN_two]⟩
                  · have Hv := Lib.hid hv
                    cases hc : inI x.counts[j] 1 20
                    · have Hc := Lib.hid hc
                      go_wp2
                      go_quiet ((first | (go_at_call 64; exact quiet_eq (hq1 _)) | (go_at_call 89; first | exact quiet_eq (l00In_is hv _) | exact quiet_eq (l00In_is hc _))))
                      go_wp2
                      go_ret
                      exact ⟨ret_bool (tilB_false fun H => by have := H.co j (by omega); have h2 := Hc.out; rw [inI_of this.1 this.2] at h2; cases h2), q + nq, by rw [Hw.out, drewN_two]⟩
                    · have Hc := Lib.hid hc
                      obtain ⟨hcb1, hcb2⟩ := inI_to hc
                      obtain ⟨hsum1, hsum2⟩ := TilTo.sum_le2 Hto.out (by omega) (by omega) B0 B4
                      go_wp2
                      go_quiet ((first | (go_at_call 64; exact quiet_eq (hq1 _)) | (go_at_call 89; first | exact quiet_eq (l00In_is hv _) | exact quiet_eq (l00In_is hc _))))
                      go_wp2
                      go_roundw
                      case rel => exact ⟨j + 1, q + nq, by omega, by go_num, by rw [sum_take x.counts j (by omega), ← Int.add_assoc], by rw [Hw.out, drewN_two], Hto.out.succ (by omega) (by omega) (by omega) Hsm.out (fun k e _ => by have := Hj.out; omega) (inI_to Hv.out) (inI_to Hc.out)⟩
                      case measure => simp [intOf]; omega
            · go_wp2
              go_ret
              obtain rfl : j = x.letters.size := by omega
              exact ⟨ret_bool (tilB_end Hto.out (by omega) (by omega) HV.out HC.out B0 B4), q, Hw.out⟩
      · have hv0 : ((x.values.length : Int) != (x.letters.size : Int)) = false := by rw [bne_eq_false_iff_eq]; omega
        have hc0 : ((x.counts.length : Int) != (x.letters.size : Int)) = true := by rw [bne_iff_ne]; omega
        have HC := Lib.hid hC
        clear hV hC
        go_enter Tryz.func68, Tryz.ntmps68
        go_wp2_with fail
        refine (l00In_any _ _ _ _).mono ?_
        rw [hA]
        rintro e w1 ⟨rfl, rfl⟩
        go_wp2
        go_ret
        exact ⟨ret_bool (tilB_false fun H => HC.out H.lc), 0, rfl⟩
    · have hv0 : ((x.values.length : Int) != (x.letters.size : Int)) = true := by rw [bne_iff_ne]; omega
      have HV := Lib.hid hV
      clear hV
      go_enter Tryz.func68, Tryz.ntmps68
      go_wp2_with fail
      refine (l00In_any _ _ _ _).mono ?_
      rw [hA]
      rintro e w1 ⟨rfl, rfl⟩
      go_wp2
      go_ret
      exact ⟨ret_bool (tilB_false fun H => HV.out H.lv), 0, rfl⟩
end Go.Proofs.YtinmmbnlflmobaaGreatDoor
