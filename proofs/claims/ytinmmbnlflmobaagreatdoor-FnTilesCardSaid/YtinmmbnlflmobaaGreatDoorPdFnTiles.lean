/- FnTiles returns true for all bytes: a drawn tile set's tiles are as many as told, with the values told, and it is restored from its text; and its tied card. No condition but what the row lists. -/
import Derived.Test.YtinmmbnlflmobaaGreatDoorCards
import Derived.Test.YtinmmbnlflmobaaGreatDoorTie
import Derived.Test.YtinmmbnlflmobaaGreatDoorFd
import Derived.Test.YtinmmbnlflmobaaGreatDoorDu
import Derived.Test.YtinmmbnlflmobaaGreatDoorTp
namespace Go.Proofs.YtinmmbnlflmobaaGreatDoor
open Go.RowKit
theorem TilBox.at {w0 w : World} {g x a c b d} (h : TilBox w0 g x a c b d) (hb : Below w0.heap.size w0 w) : TilBox w g x a c b d := h.below hb
theorem keep5 {wr w w' : World} {a0 a1 a2 a3 : Addr} {u0 u1 u2 u3 : Value} (hb : Below w.heap.size w w') (h : w.cell? a0 = some u0 ∧ w.cell? a1 = some u1 ∧ w.cell? a2 = some u2 ∧ w.cell? a3 = some u3 ∧ Below wr.heap.size wr w) :
    w'.cell? a0 = some u0 ∧ w'.cell? a1 = some u1 ∧ w'.cell? a2 = some u2 ∧ w'.cell? a3 = some u3 ∧ Below wr.heap.size wr w' :=
  ⟨cell_below hb h.1, cell_below hb h.2.1, cell_below hb h.2.2.1, cell_below hb h.2.2.2.1, h.2.2.2.2.trans (hb.mono h.2.2.2.2.size)⟩
theorem keep7 {wr w w' : World} {a0 a1 a2 a3 a4 a5 : Addr} {u0 u1 u2 u3 u4 u5 : Value} (hb : Below w.heap.size w w') (h : w.cell? a0 = some u0 ∧ w.cell? a1 = some u1 ∧ w.cell? a2 = some u2 ∧ w.cell? a3 = some u3 ∧ w.cell? a4 = some u4 ∧ w.cell? a5 = some u5 ∧ Below wr.heap.size wr w) :
    w'.cell? a0 = some u0 ∧ w'.cell? a1 = some u1 ∧ w'.cell? a2 = some u2 ∧ w'.cell? a3 = some u3 ∧ w'.cell? a4 = some u4 ∧ w'.cell? a5 = some u5 ∧ Below wr.heap.size wr w' :=
  ⟨cell_below hb h.1, cell_below hb h.2.1, cell_below hb h.2.2.1, cell_below hb h.2.2.2.1, cell_below hb h.2.2.2.2.1, cell_below hb h.2.2.2.2.2.1, h.2.2.2.2.2.2.trans (hb.mono h.2.2.2.2.2.2.size)⟩
section
attribute [local irreducible] Calls
theorem count_is {x : TileD} {ch n : Int} (h : cntV x ch = n) (v : Value) (w : World) (hv : TilR w v x) (hc : (Lit.int .u8 ch).wf = true) :
    Calls Tryz.prog 13 #[v, .int .u8 ch] w fun e w' => e = .returned (.int .i64 n) ∧ Below w.heap.size w w' := h ▸ implCountOf_any v x ch w hv hc
theorem value_is {x : TileD} {ch n : Int} (h : valV x ch = n) (v : Value) (w : World) (hv : TilR w v x) (hc : (Lit.int .u8 ch).wf = true) :
    Calls Tryz.prog 14 #[v, .int .u8 ch] w fun e w' => e = .returned (.int .i64 n) ∧ Below w.heap.size w w' := h ▸ implValueOf_any v x ch w hv hc
set_option maxHeartbeats 16000000 in
set_option maxRecDepth 20000 in
theorem fnTiles_walk (w : World) (v0 : Value) (x0 : List UInt8) (hv0 : BytesR w v0 x0) (hML : MaxL w) (hTab : TabP w) (hErr : ErrV w) :
    Calls Tryz.prog 3 #[v0] w fun e w' => e = .returned (.bool true) ∧ Below w.heap.size w w' := by
  have HV := Lib.hid hv0
  have HML := Lib.hid hML
  have HTab := Lib.hid hTab
  have HErr := Lib.hid hErr
  obtain ⟨pa, pc, rfl, hcl, hcm⟩ := hv0.shape
  clear hv0 hML hTab hErr
  by_cases hlong : 3000 < x0.length ∨ 3000 < 0
  · go_enter Tryz.func3, Tryz.ntmps3
    go_wp2_with fail
    refine (a2Long_any _ _ _ none 0 0 _ (by omega) (by omega)).mono ?_
    rw [decide_eq_true hlong]
    rintro e w1 ⟨rfl, rfl⟩
    go_wp2
    go_ret
    exact ⟨rfl, Below.refl _ _⟩
  · go_enter Tryz.func3, Tryz.ntmps3
    go_wp2_with fail
    refine (a2Long_any _ _ _ none 0 0 _ (by omega) (by omega)).mono ?_
    rw [decide_eq_false hlong]
    rintro e w1 ⟨rfl, rfl⟩
    go_wp2_with fail
    refine (a2Tiles_any _ x0 _ HV.out (by omega) HML.out HTab.out HErr.out).mono ?_
    rintro e w1 ⟨v1, rfl, ⟨x, hx, hP⟩, hb1⟩
    have HP := Lib.hid hP
    have hT := tilB_P' hP
    have HX := Lib.hid hx
    obtain ⟨s1, s2, rfl, hl4, i1, i2, i3⟩ := hx
    obtain ⟨a1, n1, rfl, hk1, hm1, -⟩ := i1.shape
    obtain ⟨a2, n2, rfl, hk2, hm2, -⟩ := i2.shape
    have hb2 := one_belowD w1 (.cells #[.string x.letters, .slice a1 x.values.length n1, .slice a2 x.counts.length n2, .int .i64 x.blanks] 26)
    have HBx := Lib.hid (TilR.box HX.out 26)
    have HB2 := Lib.hid (hb1.trans (hb2.mono hb1.size))
    have c0 := HBx.out.c0
    have c1 := HBx.out.c1
    have c2 := HBx.out.c2
    have c3 := HBx.out.c3
    have hgz : w1.heap.size < (w1.alloc (.cells #[.string x.letters, .slice a1 x.values.length n1, .slice a2 x.counts.length n2, .int .i64 x.blanks] 26)).heap.size := by simp
    clear hP i1 i2 i3 hb1 hb2
    go_wp2_with fail
    refine (implAllTiles_any _ x _ HBx.out.read).mono ?_
    rw [allV_yes hT]
    obtain ⟨al, hal⟩ : ∃ al, allB x = al := ⟨_, rfl⟩
    obtain ⟨tv, htv⟩ : ∃ tv, sumV x (allB x).data.toList = tv := ⟨_, rfl⟩
    have HLet := Lib.hid (show letV x al = tv by rw [← hal, ← letV_yes hT, htv])
    have HPile := Lib.hid (show isPile al = true by rw [← hal]; exact all_pile HP.out)
    have HSize := Lib.hid (show (al.size : Int) = x.blanks + x.counts.sum by rw [← hal]; exact all_size HP.out)
    have hals : al.size ≤ 1048576 := by
      have h1 := HSize.out
      have h2 := HP.out.su
      omega
    rw [hal]
    rintro e w3 ⟨rfl, hb3⟩
    generalize w1.alloc (.cells #[.string x.letters, .slice a1 x.values.length n1, .slice a2 x.counts.length n2, .int .i64 x.blanks] 26) = w2 at HBx HB2 hgz hb3 c0 c1 c2 c3
    have HB3 := Lib.hid (HB2.out.trans (hb3.mono HB2.out.size))
    have HBx3 := Lib.hid (HBx.out.below hb3)
    clear c0 c1 c2 c3
    have c0 := HBx3.out.c0
    have c1 := HBx3.out.c1
    have c2 := HBx3.out.c2
    have c3 := HBx3.out.c3
    have hz3 := hb3.size
    clear hb3
    go_wp2_with fail
    refine (implTotalValue_any _ x _ HBx3.out.read).mono ?_
    rw [totV_yes hT, htv]
    rintro e w4 ⟨rfl, hb4⟩
    have HB4 := Lib.hid (HB3.out.trans (hb4.mono HB3.out.size))
    have HBx4 := Lib.hid (HBx3.out.below hb4)
    clear c0 c1 c2 c3
    have c0 := HBx4.out.c0
    have c1 := HBx4.out.c1
    have c2 := HBx4.out.c2
    have c3 := HBx4.out.c3
    have hz4 := hb4.size
    clear hb4
    obtain ⟨tx, htx⟩ : ∃ tx, textV x = tx := ⟨_, rfl⟩
    have htxs : tx.size ≤ 1048576 := by rw [← htx]; exact textV_le HP.out
    go_wp2_with fail
    refine (implTilesText_any _ x _ HBx4.out.read (HTab.out.below HB4.out)).mono ?_
    rw [htx]
    rintro e w5 ⟨rfl, hb5⟩
    have HB5 := Lib.hid (HB4.out.trans (hb5.mono HB4.out.size))
    have HBx5 := Lib.hid (HBx4.out.below hb5)
    have hz5 := hb5.size
    clear hb5
    go_wp2_with fail
    refine (implReadTiles_any tx _ htxs (HML.out.below HB5.out) (HTab.out.below HB5.out) (HErr.out.below HB5.out)).mono ?_
    rw [← htx, (read_text HP.out).1, (read_text HP.out).2]
    rintro e w6 ⟨v6, rfl, hx6, hb6⟩
    have HX6 := Lib.hid hx6.read
    have hx6 := hx6.read
    obtain ⟨s3, s4, rfl, -, i1, i2, -⟩ := hx6
    obtain ⟨a3, n3, rfl, -, -, -⟩ := i1.shape
    obtain ⟨a4, n4, rfl, -, -, -⟩ := i2.shape
    have HB6 := Lib.hid (HB5.out.trans (hb6.mono HB5.out.size))
    have HBx6 := Lib.hid (HBx5.out.below hb6)
    have hz6 := hb6.size
    have HBr := Lib.hid (TilR.box HX6.out 26)
    have hb7 := one_belowD w6 (.cells #[.string x.letters, .slice a3 x.values.length n3, .slice a4 x.counts.length n4, .int .i64 x.blanks] 26)
    have HB7 := Lib.hid (HB6.out.trans (hb7.mono HB6.out.size))
    have HBx7 := Lib.hid (HBx6.out.below hb7)
    clear c0 c1 c2 c3
    have c0 := HBx7.out.c0
    have c1 := HBx7.out.c1
    have c2 := HBx7.out.c2
    have c3 := HBx7.out.c3
    have r0 := HBr.out.c0
    have r1 := HBr.out.c1
    have r2 := HBr.out.c2
    have r3 := HBr.out.c3
    clear hb6 hb7 i1 i2
    go_wp2_with fail
    refine (specSameTiles_any _ x _ x _ HBr.out.read HBx7.out.read).mono ?_
    rw [decide_eq_true rfl]
    rintro e w8 ⟨rfl, hb8⟩
    generalize w6.alloc (.cells #[.string x.letters, .slice a3 x.values.length n3, .slice a4 x.counts.length n4, .int .i64 x.blanks] 26) = w7 at HBr HB7 HBx7 hb8
    have HB8 := Lib.hid (HB7.out.trans (hb8.mono HB7.out.size))
    have HBx8 := Lib.hid (HBx7.out.below hb8)
    clear c0 c1 c2 c3 r0 r1 r2 r3 hb8
    have c0 := HBx8.out.c0
    have c1 := HBx8.out.c1
    have c2 := HBx8.out.c2
    have c3 := HBx8.out.c3
    go_wp2_with fail
    refine (specValidPile_any al _ (by unfold maxLen; omega)).mono ?_
    rw [HPile.out]
    rintro e w9 ⟨rfl, m9, hw9⟩
    have hb9 : Below w8.heap.size w8 w9 := by rw [hw9]; exact below_drewN (Below.refl _ _) _
    have HB9 := Lib.hid (HB8.out.trans (hb9.mono HB8.out.size))
    have HBx9 := Lib.hid (HBx8.out.below hb9)
    clear c0 c1 c2 c3 hb9 hw9
    have c0 := HBx9.out.c0
    have c1 := HBx9.out.c1
    have c2 := HBx9.out.c2
    have c3 := HBx9.out.c3
    go_wp2_with fail
    refine (implLettersValue_any _ x al _ HBx9.out.read hals).mono ?_
    rw [HLet.out]
    rintro e w10 ⟨rfl, hb10⟩
    have HB10 := Lib.hid (HB9.out.trans (hb10.mono HB9.out.size))
    have HBx10 := Lib.hid (HBx9.out.below hb10)
    clear c0 c1 c2 c3 hb10
    have c0 := HBx10.out.c0
    have c1 := HBx10.out.c1
    have c2 := HBx10.out.c2
    have c3 := HBx10.out.c3
    have htvv : (tv != tv) = false := by simp
    go_wp2_with fail
    refine (count_is (cnt_b HP.out) _ _ HBx10.out.read rfl).mono ?_
    rintro e w11 ⟨rfl, hb11⟩
    have HB11 := Lib.hid (HB10.out.trans (hb11.mono HB10.out.size))
    have HBx11 := Lib.hid (HBx10.out.below hb11)
    clear c0 c1 c2 c3 hb11
    have hln := HP.out.n2
    have hLV := Lib.hid HP.out.lv
    have hLC := Lib.hid HP.out.lc
    go_wp2
    go_loopw [10, 11] (fun n i wr => ∃ j : Nat, j ≤ x.letters.size ∧ i = .int .i64 (j : Int) ∧ n = .int .i64 (x.blanks + (x.counts.take j).sum) ∧ Hid (Below w11.heap.size w11 wr)) (fun _ i _ => x.letters.size - (intOf i).toNat)
    case atStart => exact ⟨0, by omega, rfl, by simp, Lib.hid (Below.refl _ _)⟩
    case round =>
      obtain ⟨j, hj, rfl, rfl, HK⟩ := hrel
      have HBr := Lib.hid (HB11.out.trans (HK.out.mono HB11.out.size))
      have HTr := Lib.hid (HBx11.out.below HK.out)
      have c0 := HTr.out.c0
      have c1 := HTr.out.c1
      have c2 := HTr.out.c2
      have c3 := HTr.out.c3
      by_cases hlt : j < x.letters.size
      · have hltI : (j : Int) < (x.letters.size : Int) := by omega
        have hjv : j < x.values.length := by have := hLV.out; omega
        have hjc : j < x.counts.length := by have := hLC.out; omega
        have HC := Lib.hid (show cntV x (x.letters[j].toNat : Int) = x.counts[j] by rw [cnt_at HP.out hlt]; simp [hjc])
        have HVa := Lib.hid (show valV x (x.letters[j].toNat : Int) = x.values[j] by rw [val_at HP.out hlt]; simp [hjv])
        have hwf : (Lit.int .u8 (x.letters[j].toNat : Int)).wf = true := by
          have := x.letters[j].toNat_lt
          simp only [Lit.wf, Bool.and_eq_true, decide_eq_true_eq]
          show 0 ≤ (x.letters[j].toNat : Int) ∧ (x.letters[j].toNat : Int) ≤ 255
          omega
        have hlen := allTo_len HP.out j (by omega)
        have hle := sum_take_le HP.out (x.counts.length - j) j (by omega)
        have hsu := HP.out.su
        have hco := HP.out.co j hjc
        have hnx : x.blanks + (x.counts.take j).sum + x.counts[j] = x.blanks + (x.counts.take (j + 1)).sum := by rw [sum_take _ _ hjc]; omega
        have HNx := Lib.hid hnx
        have hn0 : 0 ≤ x.blanks + (x.counts.take j).sum := by omega
        have hn1 : x.blanks + (x.counts.take j).sum ≤ 120 := by omega
        obtain ⟨N, hN⟩ : ∃ N, x.blanks + (x.counts.take j).sum = N := ⟨_, rfl⟩
        rw [hN] at HNx hn0 hn1 ⊢
        obtain ⟨a', c', ev, -, -, hcs⟩ := HTr.out.v.shape
        injection ev with e1 e2 e3
        subst e1 e3
        obtain ⟨b1, o1, rfl, hvc, -⟩ := hcs j hjv
        obtain ⟨a', c', ev, -, -, hcs⟩ := HTr.out.n.shape
        injection ev with e1 e2 e3
        subst e1 e3
        obtain ⟨b2, o2, rfl, hcc, -⟩ := hcs j hjc
        clear hcs hnx hlen hle hsu hN e2
        go_wp2_with fail
        go_region_held3 (fun w' => w'.cell? ⟨w1.heap.size, 0, none⟩ = some (.string x.letters) ∧ w'.cell? ⟨w1.heap.size, 1, none⟩ = some (.slice (some ⟨b1, o1, none⟩) x.values.length n1) ∧ w'.cell? ⟨w1.heap.size, 2, none⟩ = some (.slice (some ⟨b2, o2, none⟩) x.counts.length n2) ∧ w'.cell? ⟨w1.heap.size, 3, none⟩ = some (.int .i64 x.blanks) ∧ Below wr.heap.size wr w')
          (first | exact ⟨c0, c1, c2, c3, (Below.refl _ _).drew⟩ | exact keep5 hbk (by assumption))
          (first | (go_at_call 13; refine (count_is HC.out _ _ ((fun (h : _ ∧ _ ∧ _ ∧ _ ∧ Below wr.heap.size wr _) => (HTr.out.below h.2.2.2.2).read) (by assumption)) hwf).mono ?_; rintro e w12 ⟨rfl, hbk⟩))
        have hb := (by assumption : _ ∧ _ ∧ _ ∧ _ ∧ Below wr.heap.size wr w12).2.2.2.2
        have HT12 := Lib.hid (HTr.out.below hb)
        have HK12 := Lib.hid (HK.out.trans (hb.mono HK.out.size))
        have d0 := HT12.out.c0
        have d1 := HT12.out.c1
        have d2 := HT12.out.c2
        have d3 := HT12.out.c3
        have dv := cell_below hb hvc
        have dc := cell_below hb hcc
        clear c0 c1 c2 c3 hvc hcc hb
        go_wp2_with fail
        go_region_held3 (fun w' => w'.cell? ⟨w1.heap.size, 0, none⟩ = some (.string x.letters) ∧ w'.cell? ⟨w1.heap.size, 1, none⟩ = some (.slice (some ⟨b1, o1, none⟩) x.values.length n1) ∧ w'.cell? ⟨w1.heap.size, 2, none⟩ = some (.slice (some ⟨b2, o2, none⟩) x.counts.length n2) ∧ w'.cell? ⟨w1.heap.size, 3, none⟩ = some (.int .i64 x.blanks) ∧ w'.cell? ⟨b1, o1 + j, none⟩ = some (.int .i64 x.values[j]) ∧ w'.cell? ⟨b2, o2 + j, none⟩ = some (.int .i64 x.counts[j]) ∧ Below w12.heap.size w12 w')
          (first | exact ⟨d0, d1, d2, d3, dv, dc, (Below.refl _ _).drew⟩ | exact keep7 hbk (by assumption))
          (first | (go_at_call 14; refine (value_is HVa.out _ _ ((fun (h : _ ∧ _ ∧ _ ∧ _ ∧ _ ∧ _ ∧ Below w12.heap.size w12 _) => (HT12.out.below h.2.2.2.2.2.2).read) (by assumption)) hwf).mono ?_; rintro e w13 ⟨rfl, hbk⟩))
        have hb := (by assumption : _ ∧ _ ∧ _ ∧ _ ∧ _ ∧ _ ∧ Below w12.heap.size w12 w13).2.2.2.2.2.2
        have HK13 := Lib.hid (HK12.out.trans (hb.mono HK12.out.size))
        go_wp2
        go_roundw
        case rel => exact ⟨j + 1, by omega, by go_num, by rw [← HNx.out], HK13⟩
        case measure => simp [intOf]; omega
      · obtain rfl : j = x.letters.size := by omega
        have hltI : ¬ ((x.letters.size : Int) < (x.letters.size : Int)) := by omega
        have hsum : x.blanks + (x.counts.take x.letters.size).sum = (al.size : Int) := by
          rw [HSize.out, List.take_of_length_le (by have := hLC.out; omega)]
        rw [hsum]
        go_wp2
        go_ret
        exact ⟨rfl, HBr.out⟩
end
namespace fnTiles
open Go.ChangeShapes Go.WideShapes Go.ChangeAt Go.RowKit
open Go.ChangeMaps (open_string shut_string)
set_option maxRecDepth 100000 in
theorem lifted (os : Os) (started : os.Started) (H : Type) (enc : TypeId × Value → H) :
      ReturnsInHanded {} Tryz.checked os 3 .any (fun w args => (Rows.fnTilesSpec.pre enc Tryz.prog Tryz.f3 Rows.fnTilesRow.domain false w args ∧ laidMetH Tryz.prog Rows.fnTilesRow.laid w) ∧ sizedMet enc Tryz.prog Tryz.f3 (OpenSpec.ofChange Rows.fnTilesSpec) false w args) (Rows.fnTilesSpec.post enc Tryz.prog Tryz.f3 false true false false) := by
  refine handed_and_shaped (C := Tryz.checked) (X := fun w _ => laidMetH Tryz.prog Rows.fnTilesRow.laid w) (fun _ _ _ hh h => h.of_heap hh) Tryz.own started (by kernel_rfl) Tryz.func3
    (ChangeSpec.witness_shaped (enc := enc) (C := Tryz.checked) (os := os) (X := fun w _ => laidMetH Tryz.prog Rows.fnTilesRow.laid w) false (World.laidAll Tryz.prog os Rows.fnTilesRow.laid) #[.slice none 0 0] 8 (World.laidAll_os _ _ _)
      (World.shaped_of_ZipB (by kernel_rfl) (by kernel_rfl)) (by kernel_rfl) (by kernel_rfl) (by kernel_rfl)
      (by rw [MakeChecks.laidMetH_plain _ _ _ (by kernel_rfl)]; exact laidMet_laidAll _ (by kernel_rfl) (by kernel_rfl))) ?_
  intro W base args ds gs before hval0 hW hsh hlx
  have hval : ∀ (j : Nat) t v, Tryz.f3.params[j]? = some t → args[j]? = some v → Value.okWide Tryz.prog W .any base t v := hval0
  have hW' := hW
  obtain ⟨p, q, hA0, hV, rfl, hfz, hnd⟩ := hW
  have hA : DataW.TrodAll enc Tryz.prog W 0 (fun _ => true) true Tryz.f3.params.toList args.toList ds p := hA0
  rw [Tryz.params3] at hA hval
  obtain ⟨v0, vs0, d0, ds0, p0, q0, hargs, rfl, rfl, h0, r0⟩ := trodAll_cons hA
  obtain ⟨rfl, rfl, rfl⟩ := trodAll_nil r0
  obtain rfl : args = #[v0] := by cases args; simp_all
  obtain ⟨rfl, rfl⟩ := trodVars_none hV
  obtain ⟨a0, w0⟩ := open_bytes (hval 0 22 v0 rfl rfl) h0
  refine (fnTiles_walk v0 a0 w0 (w := W) (hML := MaxL.shaped hsh) (hTab := TabP.laid hlx (by repeat (first | exact .head _ | refine .tail _ ?_))) (hErr := ErrV.laid hlx (by repeat (first | exact .head _ | refine .tail _ ?_)) (by repeat (first | exact .head _ | refine .tail _ ?_)))).mono fun e W' ⟨he, hg⟩ => ?_
  subst he
  exact ⟨_, rfl, law_post Tryz.laidOut (by kernel_rfl) (by kernel_rfl) Tryz.underlying4 rfl rfl hW' hg⟩

theorem over : Rows.fnTilesRow.holds Tryz.pinned (OpenSpec.ofChange Rows.fnTilesSpec) :=
  OpenClaim.holds_of_wide 3 Tryz.f3 rfl rfl rfl rfl rfl rfl rfl ⟨rfl, rfl, rfl, rfl, rfl⟩ rfl rfl rfl rfl rfl (by kernel_rfl) Tryz.func3 (by kernel_rfl)
    (of_decide_eq_true (by kernel_rfl)) (by unfold Func.isWrapper; first | (rw [if_pos (by decide +kernel)]; kernel_rfl) | (rw [if_neg (by decide +kernel)]; exact ⟨rfl, rfl⟩))
    (fun os started H enc _ => lifted os started H enc)

theorem proved : Rows.FnTilesCardSaid :=
  Claim7.holds_tied_plain_at .later [] [.data, .data, .data, .data, .sentinel, .sentinel, .pinned] true (true, "f64f21c2d3a12cefe092bf5591e1fc6de699eb73e68a4d6e84764f56c6205af3") true over (fun _ h => by cases h) (by kernel_rfl) (fun _ h => by cases h) fnTiles_row_tie rfl ⟨rfl, rfl⟩ (by kernel_rfl) rfl
    (fun f fn hf hfn => by
      obtain rfl : f = 3 := Option.some.inj ((show Tryz.prog.funcNamed "loop.example/g00911/laws.FnTiles" = some 3 by kernel_rfl).symm.trans hf) |>.symm
      obtain rfl : fn = Tryz.f3 := (Option.some.inj (Tryz.func3.symm.trans hfn)).symm
      exact ⟨by kernel_rfl, fun j t ht => by
        rw [Tryz.params3] at ht
        have hm : t ∈ [22] := by simpa using Array.mem_of_getElem? ht
        have hall : ([22].all fun u => !Tryz.prog.wantsStandIn u) = true := by kernel_rfl
        exact (show Tryz.prog.wantsStandIn t = false by simpa using List.all_eq_true.1 hall t hm)⟩)
    (by kernel_rfl)
end fnTiles

end Go.Proofs.YtinmmbnlflmobaaGreatDoor
