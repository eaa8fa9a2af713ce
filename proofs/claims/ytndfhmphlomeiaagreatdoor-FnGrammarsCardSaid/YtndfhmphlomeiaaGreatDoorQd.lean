/- A drawn grammar: l04Draw. Condition: few choices so far. -/
import Derived.Test.YtndfhmphlomeiaaGreatDoorK2
set_option linter.unusedSimpArgs false
namespace Go.Proofs.YtndfhmphlomeiaaGreatDoor
open Go.RowKit
/-- What is drawn. -/
def DrawnG (B : Nat) (w' : World) (v1 v2 : Value) (g : Nat) (bs : List UInt8) (k : Nat) : Prop := ∃ (x : GraD) (us : List Value) (k' : Nat), GO w' B v1 v2 x us ∧ GraS x ∧ x.affixes.length ≤ 4 ∧ x.stems.length ≤ 6 ∧ k' ≤ k + 1000 ∧ SrcW w' g bs k'
attribute [local irreducible] Calls
set_option maxHeartbeats 16000000 in
set_option maxRecDepth 100000 in
theorem l04Draw_any (g : Nat) (bs : List UInt8) (k : Nat) (w : World) (hs : SrcW w g bs k) (hk : k ≤ 10000) :
    Calls Tryz.prog 28 #[.pointer (some ⟨g, 0, none⟩)] w fun e w' => ∃ v1 v2 : Value, e = .returned (.agg #[v1, v2]) ∧ DrawnG w.heap.size w' v1 v2 g bs k ∧ Kept g (g + 1) w w' := by
  have hgl := hs.lt
  have hb0 : Below w.heap.size w ((w.alloc (.cells #[.slice none 0 0, .slice none 0 0] 27)).alloc (.cells #[.slice none 0 0, .slice none 0 0] 27)) := ((Below.refl _ _).alloc (Nat.le_refl _) _).alloc (by simp) _
  have HB0 := Lib.hid hb0
  have rA := heap_alloc2_old w (.cells #[.slice none 0 0, .slice none 0 0] 27) (.cells #[.slice none 0 0, .slice none 0 0] 27)
  have rB := heap_alloc2_new w (.cells #[.slice none 0 0, .slice none 0 0] 27) (.cells #[.slice none 0 0, .slice none 0 0] 27)
  go_enter Tryz.func28, Tryz.ntmps28
  go_wp2_with fail
  refine (pick_any g bs k 5 _ _ (hs.below hb0) (by omega) rfl (by omega)).mono ?_
  rintro e w1 ⟨r, k1, rfl, hr, hk1, hs1, hkk1⟩
  have hkk1 : Kept g (g + 1) ((w.alloc (.cells #[.slice none 0 0, .slice none 0 0] 27)).alloc (.cells #[.slice none 0 0, .slice none 0 0] 27)) w1 := hkk1
  have hz1 : w.heap.size + 2 ≤ w1.heap.size := by have := hkk1.size; simpa using this
  have HRes := Lib.hid ((hkk1.block w.heap.size (by simp; omega) (.inr (by omega))).trans rA)
  have HX1 : Hid (BoxG w1 (w.heap.size + 1) (.slice none 0 0) (.slice none 0 0)) := Lib.hid ((hkk1.block (w.heap.size + 1) (by simp) (.inr (by omega))).trans rB)
  have K1 := Lib.hid ((Kept.of_below (lo := g) (hi := g + 1) HB0.out).trans hkk1)
  have HS1 := Lib.hid hs1
  have HG1 := Lib.hid (GO.nil w1 (w.heap.size + 2))
  have hr4 : r ≤ 4 := by omega
  clear hs hkk1 hs1 rA rB hb0 hr
  go_wp2
  go_loopw [4] (fun i wr => ∃ (n kr : Nat) (v1 : Value) (A : List AffD), i = .int .i64 (n : Int) ∧ A.length + n ≤ 4 ∧ kr + 10 * n ≤ k + 100 ∧ Hid (SrcW wr g bs kr) ∧ Hid (BoxG wr (w.heap.size + 1) v1 (.slice none 0 0)) ∧ Hid (GO wr (w.heap.size + 2) v1 (.slice none 0 0) ⟨A, []⟩ []) ∧ Hid (GraS ⟨A, []⟩) ∧ Hid (KeepQ (w.heap.size + 2) (w.heap.size + 1) g w1 wr)) (fun i _ => (intOf i).toNat)
  case atStart => exact ⟨r, k1, _, [], rfl, by simpa using hr4, by omega, HS1, HX1, HG1, Lib.hid GraS.nil, Lib.hid (KeepQ.refl _ _ _ _)⟩
  case round =>
    clear HG1 HS1 HX1
    obtain ⟨n, kr, v1, A, rfl, hAn, hkr, HSr, HXr, HGr, HLr, HKr⟩ := hrel
    have hszr := HKr.out.size
    by_cases hlt : 0 < n
    · have hltI : (0 : Int) < (n : Int) := by omega
      go_wp2_with fail
      refine (drawAffixS_any g bs kr _ HSr.out (by omega)).mono ?_
      rintro e w2 ⟨a, k2, rfl, ha, hk2, hs2, hkk2⟩
      have hz2 := hkk2.size
      have hb3 := one_belowQ w2 (.cells (affV a) 51)
      have HG3 := Lib.hid ((HGr.out.kept hkk2 (by omega)).below hb3)
      have HX3 := Lib.hid ((HXr.out.kept hkk2 (.inr (by omega))).below hb3)
      have HS3 := Lib.hid (hs2.below hb3)
      have HK3 := Lib.hid ((HKr.out.trans (KeepQ.of_kept hkk2 (by omega))).trans (KeepQ.of_below hb3 (by omega)))
      have HE3 := Lib.hid (heap_alloc_new w2 (.cells (affV a) 51))
      have HA := Lib.hid ha
      have hz3 := hb3.size
      clear hs2 hkk2 ha hb3
      obtain ⟨a1, c1, -, -, ev1, -⟩ := HG3.out.shape
      subst ev1
      have ev1 : (GraD.mk A []).affixes.length = A.length := rfl
      rw [ev1] at HG3 HX3 HGr HXr
      clear ev1
      obtain ⟨e0, z0⟩ := src_cell (i := 0) (v := .string a.name) HE3.out rfl
      obtain ⟨e1, z1⟩ := src_cell (i := 1) (v := .bool a.front) HE3.out rfl
      obtain ⟨e2, z2⟩ := src_cell (i := 2) (v := .string a.cond) HE3.out rfl
      obtain ⟨e3, z3⟩ := src_cell (i := 3) (v := .string a.strip) HE3.out rfl
      obtain ⟨e4, z4⟩ := src_cell (i := 4) (v := .string a.add) HE3.out rfl
      obtain ⟨x3, y3⟩ := HX3.out.c0
      go_wp2_with fail
      refine (l04Find_any (w.heap.size + 1) _ A a.name _ x3 (HG3.out.affs HLr.out.n)).mono ?_
      rintro e w4 ⟨rfl, rfl⟩
      by_cases hf : fndI A a.name < 0
      · have HX3a := Lib.hid (HX3.out.below (one_belowQ _ (.cells (affV a) 51)))
        go_wp2_with (first | (at_builtin; refine GO.app_affix rfl (.tmp 25) (.tmp 27) rfl (HG3.out.below (one_belowQ _ (.cells (affV a) 51))) (by simp; omega) (by simp; omega) a _ rfl rfl (heap_alloc2_new w2 (.cells (affV a) 51) (.cells (affV a) 51)) ?_; intro gn cap w5 hg5 hgr5 _; have HX5 := Lib.hid (HX3a.out.grown hgr5 (fun k hk => by have := (HG3.out.lt1 hk).1; omega)); have HG5 := Lib.hid hg5; have HR5 := Lib.hid hgr5; clear hg5 hgr5; obtain ⟨x5, y5⟩ := HX5.out.c0) | fail)
        have HKK := Lib.hid (((KeepQ.of_below (B := w.heap.size + 2) (gb := w.heap.size + 1) (g := w.heap.size + 1) (one_belowQ _ (.cells (affV a) 51)) (by omega)).trans (KeepQ.of_grown HR5.out (fun k hk => (HG3.out.lt1 hk).1) (by simp; omega))).trans (KeepQ.of_set (i := 0) (u := .slice (some ⟨gn, 0, none⟩) (A.length + 1) cap)))
        have HS6 := Lib.hid (HS3.out.low (HKK.out.low (by omega) (by omega)))
        have HX6 := Lib.hid (HX5.out.set0 (.slice (some ⟨gn, 0, none⟩) (A.length + 1) cap))
        have HG6 := Lib.hid (HG5.out.set (g := w.heap.size + 1) (i := 0) (u := .slice (some ⟨gn, 0, none⟩) (A.length + 1) cap) (by omega))
        have HL6 := Lib.hid (HLr.out.affix HA.out (by show A.length < 12; omega))
        have HK6 := Lib.hid (HK3.out.trans HKK.out.weak)
        go_roundw
        case rel => exact ⟨n - 1, k2, _, A ++ [a], by rw [show ((n - 1 : Nat) : Int) = (n : Int) - 1 by omega], by simp; omega, by omega, HS6, HX6, HG6, HL6, HK6⟩
        case measure => simp [intOf]; omega
      · go_wp2
        go_roundw
        case rel => exact ⟨n - 1, k2, _, A, by rw [show ((n - 1 : Nat) : Int) = (n : Int) - 1 by omega], by omega, by omega, HS3, HX3, HG3, HLr, HK3⟩
        case measure => simp [intOf]; omega
    · have hnI : (n : Int) = 0 := by omega
      rw [hnI]
      have hb2 := one_belowQ wr (.cells #[] 9)
      have HSa := Lib.hid (HSr.out.below hb2)
      have hza := hb2.size
      go_wp2_with fail
      refine (pick_any g bs kr 7 _ _ HSa.out (by omega) rfl (by omega)).mono ?_
      rintro e w2 ⟨r2, k2, rfl, hr2, hk2, hs2, hkk2⟩
      have hz2 := hkk2.size
      have HG2 := Lib.hid ((HGr.out.below hb2).kept hkk2 (by omega))
      have HX2 := Lib.hid ((HXr.out.below hb2).kept hkk2 (.inr (by omega)))
      have HS2 := Lib.hid hs2
      have HK2 := Lib.hid ((HKr.out.trans (KeepQ.of_below hb2 (by omega))).trans (KeepQ.of_kept hkk2 (by omega)))
      have HW2 : Hid (OwnS w2 (w.heap.size + 2) (.slice (some ⟨wr.heap.size, 0, none⟩) 0 0) []) := Lib.hid (own_frame (OwnS.made wr (w.heap.size + 2) (by omega)) fun k hk => by have e : wr.heap.size = k := Option.some.inj hk; subst e; exact hkk2.block _ (by simp) (.inr (by omega)))
      have hr6 : r2 ≤ 6 := by omega
      clear hb2 HSa hs2 hkk2 hr2 HSr HXr HGr HKr
      generalize wr.heap.size = gw0 at *
      go_wp2
      go_loopw [6, 7] (fun i j wr => ∃ (n kq gw cap : Nat) (L : List ByteArray), i = .slice (some ⟨gw, 0, none⟩) L.length cap ∧ j = .int .i64 (n : Int) ∧ L.length + n ≤ 6 ∧ kq + 10 * n ≤ k + 200 ∧ Hid (SrcW wr g bs kq) ∧ Hid (OwnS wr (w.heap.size + 2) (.slice (some ⟨gw, 0, none⟩) L.length cap) L) ∧ Hid (WordsS 2 L) ∧ Hid (Kept g (g + 1) w2 wr)) (fun _ j _ => (intOf j).toNat)
      case atStart => exact ⟨r2, k2, gw0, 0, [], rfl, rfl, by simpa using hr6, by omega, HS2, HW2, Lib.hid (by simp [WordsS]), Lib.hid (Kept.refl _ _ _)⟩
      case round =>
        clear HS2 HW2
        obtain ⟨n, kq, gw, cap, L, rfl, rfl, hLn, hkq, HSr, HWr, HWs, HKw⟩ := hrel
        have hszr := HKw.out.size
        by_cases hlt : 0 < n
        · have hltI : (0 : Int) < (n : Int) := by omega
          have hb3 := one_belowQ wr (.cells (wordL.map Value.string).toArray 9)
          have hz3 := hb3.size
          have hst := strs_built wr wordL (by decide) wordL_max
          go_wp2_with fail
          refine (text_any g bs kq _ wordL _ (HSr.out.below hb3) (by omega) hst (by decide) (by decide) (fun a n c e p hp => ?_)).mono ?_
          · cases e; cases hp; show wr.heap.size ≠ g; omega
          rintro e w4 ⟨t, k4, rfl, htm, hk4, hs4, hkk4⟩
          have hkk4 : Kept g (g + 1) (wr.alloc (.cells (wordL.map Value.string).toArray 9)) w4 := hkk4
          have hz4 := hkk4.size
          have HT := Lib.hid (wordL_le t htm)
          have HW4 : Hid (OwnS w4 (w.heap.size + 2) (.slice (some ⟨gw, 0, none⟩) L.length cap) L) := Lib.hid (own_frame (OwnS.below HWr.out hb3) fun k hk => hkk4.block k (World.ownsRow.lt (OwnS.below HWr.out hb3) k hk).2 (.inr (by have := (World.ownsRow.lt (OwnS.below HWr.out hb3) k hk).1; omega)))
          have HK4 := Lib.hid ((HKw.out.trans (Kept.of_below hb3)).trans hkk4)
          have HS4 := Lib.hid hs4
          clear hb3 hst hs4 hkk4 htm
          go_wp2_with fail
          refine (insertO_any (w.heap.size + 2) _ L t w4 (by omega) (by omega) HW4.out).mono ?_
          rintro e w5 ⟨L2, g5, cap5, rfl, hi5, how5, hb5⟩
          have hl5 := hi5.len
          have HS5 := Lib.hid (HS4.out.below hb5)
          have HW5 := Lib.hid how5
          have HK5 := Lib.hid (HK4.out.trans (Kept.of_below hb5))
          have HWs5 := Lib.hid (HWs.out.ins HT.out hi5)
          clear hb5 how5 hi5
          go_wp2
          go_roundw
          case rel => exact ⟨n - 1, k4, g5, cap5, L2, rfl, by rw [show ((n - 1 : Nat) : Int) = (n : Int) - 1 by omega], by omega, by omega, HS5, HW5, HWs5, HK5⟩
          case measure => simp [intOf]; omega
        · have hnI : (n : Int) = 0 := by omega
          rw [hnI]
          have HG3 := Lib.hid (HG2.out.kept HKw.out (by omega))
          have HX3 := Lib.hid (HX2.out.kept HKw.out (.inr (by omega)))
          have HK3 := Lib.hid (HK2.out.trans (KeepQ.of_kept HKw.out (by omega)))
          have hz3 : w.heap.size + 2 ≤ wr.heap.size := by omega
          have hgw := World.ownsRow.lt HWr.out gw rfl
          have hL6 : L.length ≤ 6 := by omega
          have hA4 : A.length ≤ 4 := by omega
          have hkq : kq ≤ k + 200 := by omega
          obtain ⟨w3, ew3⟩ : ∃ x, x = wr := ⟨_, rfl⟩
          subst ew3
          clear HG2 HX2 HK2 HKw hlt hLn hAn
          obtain ⟨a1, c1, -, -, ev1, -⟩ := HG3.out.shape
          subst ev1
          have ev1 : (GraD.mk A []).affixes.length = A.length := rfl
          rw [ev1] at HG3 HX3
          clear ev1
          have HL3 := HLr
          clear HLr
          go_wp2
          go_loopw [8] (fun i wr => ∃ (j kr : Nat) (v2 : Value) (S : List StemD) (us : List Value), i = .int .i64 (j : Int) ∧ j ≤ L.length ∧ S.length = j ∧ kr ≤ k + 200 + 50 * j ∧ Hid (SrcW wr g bs kr) ∧ Hid (BoxG wr (w.heap.size + 1) (.slice a1 A.length c1) v2) ∧ Hid (GO wr (w.heap.size + 2) (.slice a1 A.length c1) v2 ⟨A, S⟩ us) ∧ Hid (GraS ⟨A, S⟩) ∧ Hid (KeepQ w3.heap.size (w.heap.size + 1) g w3 wr) ∧ Hid (∀ q, v2.ownBlock = some q → w3.heap.size ≤ q)) (fun i _ => L.length - (intOf i).toNat)
          case atStart => exact ⟨0, kq, _, [], [], rfl, Nat.zero_le _, rfl, by omega, HSr, HX3, HG3, HL3, Lib.hid (KeepQ.refl _ _ _ _), Lib.hid (fun q h => by simp [Value.ownBlock] at h)⟩
          case round =>
            clear HSr HX3 HG3 HL3
            obtain ⟨j, kr, v2, S, us, rfl, hjL, hSj, hkr, HSr, HXr, HGr, HLr, HKr, HVr⟩ := hrel
            have HSj := Lib.hid hSj
            have hS6 : S.length ≤ 6 := by omega
            clear hSj
            have hszr := HKr.out.size
            by_cases hlt : j < L.length
            · have hltI : (j : Int) < (L.length : Int) := by omega
              obtain ⟨wd, hwd⟩ : ∃ wd, wd = L[j] := ⟨_, rfl⟩
              have hcw : wr.cell? ⟨gw, j, none⟩ = some (.string wd) := HKr.out.cell hgw.2 (by omega) (by omega) (by have := World.ownsRow.cellAt HWr.out j (by omega); rw [this, hwd, List.getElem?_map, List.getElem?_eq_getElem hlt]; rfl)
              have HWd := Lib.hid (hwd ▸ HWs.out L[j] (List.getElem_mem _) : 2 ≤ wd.size ∧ wd.size ≤ 12)
              clear hwd
              have hbx := one_belowQ wr (.cells #[.string wd, .slice none 0 0] 59)
              have HSx := Lib.hid (HSr.out.below hbx)
              have HXx := Lib.hid (HXr.out.below hbx)
              have HGx := Lib.hid (HGr.out.below hbx)
              have HBx := Lib.hid (heap_alloc_new wr (.cells #[.string wd, .slice none 0 0] 59))
              have HKx := Lib.hid (HKr.out.trans (KeepQ.of_below hbx (by omega)))
              have hzx : (wr.alloc (.cells #[.string wd, .slice none 0 0] 59)).heap.size = wr.heap.size + 1 := by simp
              have HFx := Lib.hid hbx
              clear hbx
              obtain ⟨-, -, a2, c2, -, ev2⟩ := HGr.out.shape
              subst ev2
              have ev2 : (GraD.mk A S).stems.length = S.length := rfl
              rw [ev2] at HGr HXr HGx HXx HVr
              clear ev2
              obtain ⟨wq, ewq⟩ : ∃ x, x = wr := ⟨_, rfl⟩
              subst ewq
              go_wp2
              generalize wq.alloc (.cells #[.string wd, .slice none 0 0] 59) = wx at HSx HXx HGx HBx HKx hzx HFx ⊢
              have HU0 := Lib.hid (World.ownsRow_nil wx (wq.heap.size + 1) 9 1)
              go_loopw [10] (fun i wr => ∃ (m kp : Nat) (v3 : Value) (U : List ByteArray), i = .int .i64 (m : Int) ∧ m ≤ A.length ∧ U.length ≤ m ∧ kp ≤ kr + 2 * m ∧ Hid (SrcW wr g bs kp) ∧ Hid (wr.heap[wq.heap.size]? = some (.cells #[.string wd, v3] 59 (0, 0))) ∧ Hid (OwnS wr (wq.heap.size + 1) v3 U) ∧ Hid (WordsS 1 U) ∧ Hid (KeepQ (wq.heap.size + 1) wq.heap.size g wx wr)) (fun i _ => A.length - (intOf i).toNat)
              case atStart => exact ⟨0, kr, _, [], rfl, Nat.zero_le _, Nat.le_refl _, by omega, HSx, HBx, HU0, Lib.hid (by simp [WordsS]), Lib.hid (KeepQ.refl _ _ _ _)⟩
              case round =>
                clear HSx HBx HU0 hcw
                obtain ⟨m, kp, v3, U, rfl, hmA, hUm, hkp, HSr, HBr, HUr, HWu, HKu⟩ := hrel
                have hszr := HKu.out.size
                have HXu : Hid (BoxG wr (w.heap.size + 1) (.slice a1 A.length c1) (.slice a2 S.length c2)) := Lib.hid ((HKu.out.block _ (by omega) (by omega) (by omega)).trans HXx.out)
                obtain ⟨x0, y0⟩ := HXu.out.c0
                by_cases hlm : m < A.length
                · have hlmI : (m : Int) < (A.length : Int) := by omega
                  go_wp2_with fail
                  refine (one_any g bs kp 3 _ _ HSr.out (by omega) rfl (by omega)).mono ?_
                  rintro e w4 ⟨b, k4, rfl, hk4, hs4, hkk4⟩
                  have hz4 := hkk4.size
                  have HB4 := Lib.hid ((hkk4.block _ (by omega) (.inr (by omega))).trans HBr.out)
                  have HU4 : Hid (OwnS w4 (wq.heap.size + 1) v3 U) := Lib.hid (own_frame HUr.out fun q hq => hkk4.block q (World.ownsRow.lt HUr.out q hq).2 (.inr (by have := (World.ownsRow.lt HUr.out q hq).1; omega)))
                  have HK4 := Lib.hid (HKu.out.trans (KeepQ.of_kept hkk4 (by omega)))
                  have HS4 := Lib.hid hs4
                  have HX4 := Lib.hid (HXu.out.kept hkk4 (.inr (by omega)))
                  cases b
                  · obtain ⟨a9, c9, ea, -, -, hAt⟩ := (HGr.out.affs HLr.out.n).shape
                    injection ea with ea1 _ ea3
                    subst ea1 ea3
                    obtain ⟨b1, o1, rfl, hnm, -, -, -, -, hlim⟩ := hAt m hlm
                    obtain ⟨nm, hnmE⟩ : ∃ nm, nm = A[m].name := ⟨_, rfl⟩
                    have hb1 : w.heap.size + 2 ≤ b1 ∧ b1 < wq.heap.size := HGr.out.lt1 rfl
                    have hnm4 : w4.cell? ⟨b1, o1 + m * 5, none⟩ = some (.string nm) := by rw [hnmE]; exact HK4.out.cell (by omega) (by omega) (by omega) (cell_below HFx.out hnm)
                    have HN := Lib.hid (show 1 ≤ nm.size ∧ nm.size ≤ 12 from by rw [hnmE]; exact (HLr.out.afs m hlm).n)
                    clear hAt hnm hlim hnmE x0 y0
                    obtain ⟨x4, y4⟩ := HX4.out.c0
                    obtain ⟨a3, c3, ev3, -, -⟩ := HU4.out.shape
                    subst ev3
                    obtain ⟨d4, q4⟩ := src_cell (i := 1) (v := .slice a3 U.length c3) HB4.out rfl
                    have d4d : w4.drew.cell? ⟨wq.heap.size, 1, none⟩ = some (.slice a3 U.length c3) := d4
                    go_upto_region 21 with fail
                    refine wp_region_held_drew (S := (fun w' => w'.cell? ⟨w.heap.size + 1, 0, none⟩ = some (.slice (some ⟨b1, o1, none⟩) A.length c1) ∧ w'.cell? ⟨b1, o1 + m * 5, none⟩ = some (.string nm))) (by kernel_rfl) ?_ (fun hHeld => ?_)
                    · exact ⟨x4, hnm4⟩
                    refine wpAnyH_take (i := 0) (v := ?v1) rfl (by kernel_rfl) (by kernel_rfl) (by kernel_rfl) (fun _ _ _ h => h) (Or.inl ⟨by kernel_rfl, ?hy1⟩) (by assumption) ?_
                    case hy1 => (intro w9 hS9; (try dsimp only at hS9); go_simp; (try with_reducible rfl))
                    try simp only [Act.put, List.getElem_toArray, List.getElem_cons_succ, List.getElem_cons_zero, List.setIfInBounds_toArray, List.set_cons_zero, List.set_cons_succ]
                    refine wpAnyH_take (i := 2) (v := ?v2) rfl (by kernel_rfl) (by kernel_rfl) (by kernel_rfl) (fun _ _ _ h => h) (Or.inl ⟨by kernel_rfl, ?hy2⟩) (by assumption) ?_
                    case hy2 => (intro w9 hS9; (try dsimp only at hS9); go_simp; (try with_reducible rfl))
                    try simp only [Act.put, List.getElem_toArray, List.getElem_cons_succ, List.getElem_cons_zero, List.setIfInBounds_toArray, List.set_cons_zero, List.set_cons_succ]
                    refine wpAnyH_take (i := 3) (v := ?v3) rfl (by kernel_rfl) (by kernel_rfl) (by kernel_rfl) (fun _ _ _ h => h) (Or.inl ⟨by kernel_rfl, ?hy3⟩) (by assumption) ?_
                    case hy3 => (intro w9 hS9; (try dsimp only at hS9); go_simp; (try with_reducible rfl))
                    try simp only [Act.put, List.getElem_toArray, List.getElem_cons_succ, List.getElem_cons_zero, List.setIfInBounds_toArray, List.set_cons_zero, List.set_cons_succ]
                    refine wpAnyH_take (i := 4) (v := ?v4) rfl (by kernel_rfl) (by kernel_rfl) (by kernel_rfl) (fun _ _ _ h => h) (Or.inl ⟨by kernel_rfl, ?hy4⟩) (by assumption) ?_
                    case hy4 => (intro w9 hS9; (try dsimp only at hS9); go_simp; (try with_reducible rfl))
                    try simp only [Act.put, List.getElem_toArray, List.getElem_cons_succ, List.getElem_cons_zero, List.setIfInBounds_toArray, List.set_cons_zero, List.set_cons_succ]
                    refine wpAnyH_take (i := 5) (v := ?v5) rfl (by kernel_rfl) (by kernel_rfl) (by kernel_rfl) (fun _ _ _ h => h) (Or.inl ⟨by kernel_rfl, ?hy5⟩) (by assumption) ?_
                    case hy5 => (intro w9 hS9; (try dsimp only at hS9); go_simp; (try with_reducible rfl))
                    try simp only [Act.put, List.getElem_toArray, List.getElem_cons_succ, List.getElem_cons_zero, List.setIfInBounds_toArray, List.set_cons_zero, List.set_cons_succ]
                    refine wpAnyH_take (i := 6) (v := ?v6) rfl (by kernel_rfl) (by kernel_rfl) (by kernel_rfl) (fun _ _ _ h => h) (Or.inl ⟨by kernel_rfl, ?hy6⟩) (by assumption) ?_
                    case hy6 => (intro w9 hS9; (try dsimp only at hS9); go_simp; (try with_reducible rfl))
                    try simp only [Act.put, List.getElem_toArray, List.getElem_cons_succ, List.getElem_cons_zero, List.setIfInBounds_toArray, List.set_cons_zero, List.set_cons_succ]
                    refine wpAnyH_take (i := 7) (v := ?v7) rfl (by kernel_rfl) (by kernel_rfl) (by kernel_rfl) (fun _ _ _ h => h) (Or.inl ⟨by kernel_rfl, ?hy7⟩) (by assumption) ?_
                    case hy7 => (intro w9 hS9; (try dsimp only at hS9); go_simp; (try with_reducible rfl))
                    try simp only [Act.put, List.getElem_toArray, List.getElem_cons_succ, List.getElem_cons_zero, List.setIfInBounds_toArray, List.set_cons_zero, List.set_cons_succ]
                    refine wpAnyH_ready (rs := [1]) (by kernel_rfl) (by simp) ?_
                    refine AllReadyH.cons rfl (fun K9 hK9 => ?_) AllReadyH.nil
                    rw [if_pos (by rfl)]
                    go_simp
                    refine hK9.out _ _ ((by assumption)) (fun hHeld2 => ?_)
                    clear hK9 K9
                    try simp only [Act.put, List.getElem_toArray, List.getElem_cons_succ, List.getElem_cons_zero, List.setIfInBounds_toArray, List.set_cons_zero, List.set_cons_succ]
                    refine wpAnyH_ready (rs := [8]) (by kernel_rfl) (by simp) ?_
                    refine AllReadyH.cons rfl (fun K9 hK9 => ?_) AllReadyH.nil
                    rw [if_pos (by rfl)]
                    go_wp2_with (go_at_call 56; refine (insertO_any (wq.heap.size + 1) _ U nm w4.drew (by omega) (by exact Nat.le_trans (by omega) hz4) HU4.out).mono ?_; rintro e w5 ⟨U2, g5, cap5, rfl, hi5, how5, hb5⟩)
                    have hb5 : Below w4.heap.size w4 w5 := (Below.refl w4.heap.size w4).drew.trans hb5
                    have hl5 := hi5.len
                    have HB5 := Lib.hid ((hb5.block _ (by omega)).trans HB4.out)
                    obtain ⟨d5, q5⟩ := src_cell (i := 1) (v := .slice a3 U.length c3) HB5.out rfl
                    refine hK9.out _ _ (⟨cell_below hb5 x4, cell_below hb5 hnm4⟩) (fun hHeld3 => ?_)
                    clear hK9 K9
                    try simp only [Act.put, List.getElem_toArray, List.getElem_cons_succ, List.getElem_cons_zero, List.setIfInBounds_toArray, List.set_cons_zero, List.set_cons_succ]
                    refine wpAnyH_take (i := 9) (v := ?v8) rfl (by kernel_rfl) (by kernel_rfl) (by kernel_rfl) (fun _ _ _ h => h) (Or.inl ⟨by kernel_rfl, ?hy8⟩) (by assumption) ?_
                    case hy8 => (intro w9 hS9; (try dsimp only at hS9); go_simp; (try with_reducible rfl))
                    try simp only [Act.put, List.getElem_toArray, List.getElem_cons_succ, List.getElem_cons_zero, List.setIfInBounds_toArray, List.set_cons_zero, List.set_cons_succ]
                    refine wpAnyH_ready (rs := [10]) (by kernel_rfl) (by simp) ?_
                    refine AllReadyH.cons rfl (fun K9 hK9 => ?_) AllReadyH.nil
                    rw [if_pos (by rfl)]
                    go_simp
                    refine hK9.out _ _ (⟨cell_setQ (by omega) (cell_below hb5 x4), cell_setQ (by omega) (cell_below hb5 hnm4)⟩) (fun hHeld4 => ?_)
                    clear hK9 K9
                    try simp only [Act.put, List.getElem_toArray, List.getElem_cons_succ, List.getElem_cons_zero, List.setIfInBounds_toArray, List.set_cons_zero, List.set_cons_succ]
                    refine wpAnyH_done (by kernel_rfl) ?_ _
                    have HB6 := Lib.hid (show (w5.setCell ⟨wq.heap.size, 1, none⟩ (.slice (some ⟨g5, 0, none⟩) U2.length cap5)).heap[wq.heap.size]? = some (.cells #[.string wd, .slice (some ⟨g5, 0, none⟩) U2.length cap5] 59 (0, 0)) by simpa using src_set (i := 1) (u := .slice (some ⟨g5, 0, none⟩) U2.length cap5) HB5.out)
                    have HU6 : Hid (OwnS (w5.setCell ⟨wq.heap.size, 1, none⟩ (.slice (some ⟨g5, 0, none⟩) U2.length cap5)) (wq.heap.size + 1) (.slice (some ⟨g5, 0, none⟩) U2.length cap5) U2) := Lib.hid (own_frame how5 fun q hq => Below.heap_setCell _ _ _ _ (by show q ≠ wq.heap.size; have := (World.ownsRow.lt how5 q hq).1; omega))
                    have HKK := Lib.hid ((KeepQ.of_below (B := wq.heap.size + 1) (gb := wq.heap.size) (g := wq.heap.size) hb5 (by omega)).trans (KeepQ.of_set (i := 1) (u := .slice (some ⟨g5, 0, none⟩) U2.length cap5)))
                    have HS6 := Lib.hid (HS4.out.low (HKK.out.low (by omega) (by omega)))
                    have HK6 := Lib.hid (HK4.out.trans HKK.out.weak)
                    have HW6 := Lib.hid (HWu.out.ins HN.out hi5)
                    clear hi5 how5 hb5 hHeld hHeld2 hHeld3 hHeld4
                    go_wp2
                    go_roundw
                    case rel => exact ⟨m + 1, k4, _, U2, by go_num, by omega, by omega, by omega, HS6, HB6, HU6, HW6, HK6⟩
                    case measure => simp [intOf]; omega
                  · go_wp2
                    go_roundw
                    case rel => exact ⟨m + 1, k4, _, U, by go_num, by omega, by omega, by omega, HS4, HB4, HU4, HWu, HK4⟩
                    case measure => simp [intOf]; omega
                · obtain rfl : m = A.length := by omega
                  have hSl : S.length ≤ 1000 := by omega
                  obtain ⟨a3, c3, ev3, -, -⟩ := HUr.out.shape
                  subst ev3
                  have HGu := Lib.hid (HGr.out.frame (w' := wr) fun q hq hB => (HKu.out.block q (by omega) (by omega) (by omega)).trans (HFx.out.block q hq))
                  have hal := one_belowQ wr (.cells #[.string wd, .slice a3 U.length c3] 59)
                  have Hux : Hid (∀ q, (Value.slice a3 U.length c3).ownBlock = some q → (Value.slice a1 A.length c1).ownBlock ≠ some q ∧ (Value.slice a2 S.length c2).ownBlock ≠ some q ∧ ∀ i (_ : i < us.length), us[i].ownBlock ≠ some q) := Lib.hid fun q hq => by
                    have h1 := (World.ownsRow.lt HUr.out q hq).1
                    exact ⟨fun e => by have := (HGr.out.lt1 e).2; omega, fun e => by have := (HGr.out.lt2 e).2; omega, fun i hi e => by have := (HGr.out.ltu hi e).2; omega⟩
                  have HUB := Lib.hid (OwnS.below (own_monoR HUr.out (B2 := w.heap.size + 2) (by omega)) hal)
                  have HGy := Lib.hid (HGu.out.below hal)
                  have HXy := Lib.hid (HXu.out.below hal)
                  have HAl := Lib.hid hal
                  have hzy := hal.size
                  clear hal
                  obtain ⟨x1, y1⟩ := HXu.out.c1
                  obtain ⟨d0, q0⟩ := src_cell (i := 0) (v := .string wd) HBr.out rfl
                  obtain ⟨d1, q1⟩ := src_cell (i := 1) (v := .slice a3 U.length c3) HBr.out rfl
                  go_wp2_with (first | (at_builtin; refine GO.app_stem rfl (.tmp 74) (.tmp 76) rfl HGy.out (by omega) hSl ⟨wd, U⟩ a3 U.length c3 _ rfl rfl (heap_alloc_new wr _) HUB.out Hux.out ?_; intro gn cap7 w8 hg8 hgr8 hloc8; have HX8 := Lib.hid (HXy.out.grown hgr8 (fun q hq => by have := (HGy.out.lt2 hq).1; omega)); obtain ⟨x8, y8⟩ := HX8.out.c1) | fail)
                  have HKK := Lib.hid (((KeepQ.of_below (B := w3.heap.size) (gb := w.heap.size + 1) (g := w.heap.size + 1) HAl.out (by omega)).trans (KeepQ.of_grown hgr8 (fun q hq => HVr.out q hq) (by omega))).trans (KeepQ.of_set (i := 1) (u := .slice (some ⟨gn, 0, none⟩) (S.length + 1) cap7)))
                  have HS9 := Lib.hid (HSr.out.low (HKK.out.low (by omega) (by omega)))
                  have HX9 := Lib.hid (HX8.out.set1 (.slice (some ⟨gn, 0, none⟩) (S.length + 1) cap7))
                  have HG9 := Lib.hid (hg8.set (g := w.heap.size + 1) (i := 1) (u := .slice (some ⟨gn, 0, none⟩) (S.length + 1) cap7) (by omega))
                  have HL9 := Lib.hid (HLr.out.stem (s := ⟨wd, U⟩) ⟨HWd.out, by show U.length ≤ 12; omega, HWu.out⟩ (by show S.length < 30; omega))
                  have HK9 := Lib.hid ((HKx.out.trans (HKu.out.less (by omega) (by omega))).trans HKK.out.weak)
                  have HV9 : Hid (∀ q, (Value.slice (some ⟨gn, 0, none⟩) (S.length + 1) cap7).ownBlock = some q → w3.heap.size ≤ q) := Lib.hid fun q hq => by
                    have e : gn = q := Option.some.inj hq
                    subst e
                    rcases hloc8 with h | h
                    · exact HVr.out gn h
                    · omega
                  have hSj2 : (S ++ [(⟨wd, U⟩ : StemD)]).length = j + 1 := by simp [HSj.out]
                  clear hg8 hgr8 hloc8
                  go_roundw
                  case rel => exact ⟨j + 1, kp, _, S ++ [⟨wd, U⟩], us ++ [.slice a3 U.length c3], by go_num, by omega, hSj2, by omega, HS9, HX9, HG9, HL9, HK9, HV9⟩
                  case measure => simp [intOf]; omega
            · have hjE : j = L.length := by omega
              have HR := Lib.hid ((HKr.out.block w.heap.size (by omega) (by omega) (by omega)).trans ((HK3.out.block w.heap.size (by omega) (by omega) (by omega)).trans HRes.out))
              obtain ⟨-, -, a2, c2, -, ev2⟩ := HGr.out.shape
              subst ev2
              have ev2 : (GraD.mk A S).stems.length = S.length := rfl
              rw [ev2] at HGr HXr
              clear ev2
              obtain ⟨x0, y0⟩ := HXr.out.c0
              obtain ⟨x1, y1⟩ := HXr.out.c1
              obtain ⟨d0, q0⟩ := src_cell (i := 0) (v := .slice none 0 0) HR.out rfl
              obtain ⟨d1, q1⟩ := src_cell (i := 1) (v := .slice none 0 0) HR.out rfl
              subst hjE
              go_wp2
              have st := store2 HR.out (.slice a1 A.length c1) (.slice a2 S.length c2)
              refine bodyPost_ret (v := .agg #[.slice a1 A.length c1, .slice a2 S.length c2]) (results_cell_row (p := 2) (ty := 27) rfl _ _ w.heap.size _ _ _ _ rfl st.1 Tryz.underlying27 rfl infoGra) rfl ⟨_, _, rfl, ⟨⟨A, S⟩, us, kr, (HGr.out.kept st.2.1 (by omega)).mono (by omega), HLr.out, hA4, hS6, by omega, HSr.out.low (st.2.1.below (by omega) (by omega))⟩, ((HK3.out.trans (HKr.out.mono (by omega))).kept K1.out (by omega) (by omega)).then_new st.2.1 (Nat.le_refl _)⟩
end Go.Proofs.YtndfhmphlomeiaaGreatDoor
