/- MatchesAffix, ApplyAffix, UndoAffix of both sides. Conditions: the readings; strings of at most 2^20 bytes; MaxLen's cell. -/
import Derived.Test.YtgefgdkejenhnaaDoorGb
namespace Go.Proofs.YtgefgdkejenhnaaDoor
open Go.RowKit
attribute [local irreducible] Calls
theorem out_size {x : AffD} {s : ByteArray} (ha : affB x = true) (hs : s.size ≤ 12) (hp : x.strip.size ≤ s.size) : (restB x s x.strip.size).size ≤ 12 ∧ x.add.size ≤ 4 ∧ (outB x s).size ≤ 16 := by
  have h4 := lettersB_le (affB_parts ha).2.2.2.1
  have h1 := restB_size (x := x) hp
  have h2 := joinB_size x (restB x s x.strip.size) x.add
  unfold outB
  omega
theorem und_size {x : AffD} {s : ByteArray} (ha : affB x = true) (hs : s.size ≤ 12) (hp : x.add.size ≤ s.size) : (restB x s x.add.size).size ≤ 12 ∧ x.strip.size ≤ 4 ∧ (undB x s).size ≤ 16 := by
  have h4 := lettersB_le (affB_parts ha).2.2.1
  have h1 := restB_size (x := x) hp
  have h2 := joinB_size x (restB x s x.add.size) x.strip
  unfold undB
  omega
theorem le_max {n m : Nat} (h : n ≤ m) (hm : m ≤ 1048576 := by omega) : n ≤ maxLen := by unfold maxLen; omega
noncomputable def mafV (x : AffD) (s : ByteArray) : Bool := affB x && isLong s && matB x s
set_option maxHeartbeats 2000000 in
set_option maxRecDepth 20000 in
theorem l04Apply_any (g : Nat) (x : AffD) (s : ByteArray) (w : World) (hx : AffBox w g x) (ha : affB x = true) (hl : isLong s = true) :
    Calls Tryd.prog 82 #[.pointer (some ⟨g, 0, none⟩), .string s] w fun e w' => e = .returned (.tuple #[.string (apV x s).1, .int .i64 (apV x s).2]) ∧ Below w.heap.size w w' := by
  have HX := Lib.hid hx
  have Ha := Lib.hid ha
  have h12 := isLong_12 hl
  have Hs := Lib.hid (le_max h12)
  have hl3 := hx.l.s
  have hl4 := hx.l.a
  unfold maxLen at hl3 hl4
  clear hx ha hl
  cases hm : matB x s
  · have Hm := Lib.hid hm
    go_enter Tryd.func82, Tryd.ntmps82
    go_wp2_with fail
    refine (l04Matches_any g x s _ HX.out Hs.out).mono ?_
    rw [hm]
    rintro e w1 ⟨rfl, q, rfl⟩
    go_wp2
    go_ret2
    exact ⟨ret_si (apV_no Hm.out), below_drewN (Below.refl _ _) q⟩
  · have Hm := Lib.hid hm
    have hpn := (cutB_iff.1 (matB_strip hm)).1
    obtain ⟨hz1, hz2, hz3⟩ := out_size Ha.out h12 hpn
    have Hz := Lib.hid (le_max hz3)
    have Hout := Lib.hid (show joinB x (restB x s x.strip.size) x.add = outB x s from rfl)
    go_enter Tryd.func82, Tryd.ntmps82
    go_wp2_with fail
    refine (l04Matches_any g x s _ HX.out Hs.out).mono ?_
    rw [hm]
    rintro e w1 ⟨rfl, q, hw1⟩
    have HB1 := Lib.hid (show Below w.heap.size w w1 by rw [hw1]; exact below_drewN (Below.refl _ _) q)
    have k1 := (HX.out.below HB1.out).c1
    have k3 := (HX.out.below HB1.out).c3
    have k4 := (HX.out.below HB1.out).c4
    clear hw1 hm
    go_wp2
    go_quiet ((first | (go_at_call 103; exact quiet_eq (l04Rest_any g x s _ x.strip.size _ k1 Hs.out rfl hpn)) | (go_at_call 102; exact quiet_eq (l04Join_any g x _ _ _ k1 (by omega) (by omega)))))
    rw [Hout.out]
    have HB2 := Lib.hid (below_drewN HB1.out nq)
    generalize w1.drewN nq = w2 at HB2 ⊢
    clear k1 k3 k4
    cases hlo : isLong (outB x s)
    all_goals
      have Hlo := Lib.hid hlo
      go_wp2_with fail
      refine (l05Long_any _ _ Hz.out).mono ?_
      rw [hlo]
      rintro e w3 ⟨rfl, rfl⟩
      clear hlo
      go_wp2
      go_ret2
    · exact ⟨ret_si (apV_far Hm.out Hlo.out), HB2.out⟩
    · exact ⟨ret_si (apV_yes Hm.out Hlo.out), HB2.out⟩
set_option maxHeartbeats 2000000 in
set_option maxRecDepth 20000 in
theorem implApplyAffix_any (v : Value) (x : AffD) (s : ByteArray) (w : World) (hv : AffR w v x) (hs : s.size ≤ 1048576) (hm : MaxL w) :
    Calls Tryd.prog 87 #[v, .string s] w fun e w' => e = .returned (.tuple #[.string (appV x s).1, .int .i64 (appV x s).2]) ∧ Below w.heap.size w w' := by
  obtain rfl := hv.1
  have hb0 : Below w.heap.size w (w.alloc (.cells #[.string x.name, .bool x.front, .string x.cond, .string x.strip, .string x.add] 64)) := (Below.refl _ _).alloc (Nat.le_refl _) _
  have HX := Lib.hid (hv.box 64)
  have Hs := Lib.hid (le_max hs)
  have HM0 := Lib.hid (hm.below hb0)
  clear hv hm
  have c0 := HX.out.c0
  have c1 := HX.out.c1
  have c2 := HX.out.c2
  have c3 := HX.out.c3
  have c4 := HX.out.c4
  cases ha : affB x
  · have Ha := Lib.hid ha
    go_enter Tryd.func87, Tryd.ntmps87
    go_wp2_with fail
    refine (implValidAffix_any _ x _ HX.out.read HM0.out).mono ?_
    rw [ha]
    rintro e w1 ⟨rfl, hb1⟩
    go_wp2
    go_ret2
    exact ⟨ret_si (appV_bad Ha.out), hb0.trans (hb1.mono hb0.size)⟩
  · have Ha := Lib.hid ha
    cases hl : isLong s
    all_goals
      have Hl := Lib.hid hl
      go_enter Tryd.func87, Tryd.ntmps87
      go_wp2_with fail
      refine (implValidAffix_any _ x _ HX.out.read HM0.out).mono ?_
      rw [ha]
      rintro e w1 ⟨rfl, hb1⟩
      have HB1 := Lib.hid (hb0.trans (hb1.mono hb0.size))
      have HX1 := Lib.hid (HX.out.below hb1)
      have HM1 := Lib.hid (HM0.out.below hb1)
      clear hb1 hb0 HX c0 c1 c2 c3 c4 HM0
      have d0 := HX1.out.c0
      have d1 := HX1.out.c1
      have d2 := HX1.out.c2
      have d3 := HX1.out.c3
      have d4 := HX1.out.c4
      go_wp2_with fail
      refine (isLong_any _ _ Hs.out).mono ?_
      rw [hl]
      rintro e w2 ⟨rfl, hb2⟩
      have HB2 := Lib.hid (HB1.out.trans (hb2.mono HB1.out.size))
      have HX2 := Lib.hid (HX1.out.below hb2)
      have HM2 := Lib.hid (HM1.out.below hb2)
      clear hl hb2 HB1 HX1 HM1 d0 d1 d2 d3 d4
    · go_wp2
      go_ret2
      exact ⟨ret_si (appV_short Ha.out Hl.out), HB2.out⟩
    · have d0 := HX2.out.c0
      have d1 := HX2.out.c1
      have d2 := HX2.out.c2
      have d3 := HX2.out.c3
      have d4 := HX2.out.c4
      have h12 := isLong_12 Hl.out
      cases hm : matB x s
      all_goals
        have Hm := Lib.hid hm
        go_wp2_with fail
        refine (matches_any _ x s _ HX2.out.read Hs.out).mono ?_
        rw [hm]
        rintro e w3 ⟨rfl, hb3⟩
        clear hm
        have HB3 := Lib.hid (HB2.out.trans (hb3.mono HB2.out.size))
        have HX3 := Lib.hid (HX2.out.below hb3)
        have HM3 := Lib.hid (HM2.out.below hb3)
        clear hb3 HB2 HX2 HM2 d0 d1 d2 d3 d4
        have d0 := HX3.out.c0
        have d1 := HX3.out.c1
        have d2 := HX3.out.c2
        have d3 := HX3.out.c3
        have d4 := HX3.out.c4
      · go_wp2
        go_ret2
        exact ⟨ret_si (by rw [appV_ap Ha.out Hl.out, apV_no Hm.out]), HB3.out⟩
      · have hpn := (cutB_iff.1 (matB_strip Hm.out)).1
        obtain ⟨hz1, hz2, hz3⟩ := out_size Ha.out h12 hpn
        have Hz := Lib.hid (le_max hz3)
        have Hout := Lib.hid (show joinB x (restB x s x.strip.size) x.add = outB x s from rfl)
        have Hcr := Lib.hid (cutR_yes (matB_strip Hm.out))
        go_wp2_with fail
        refine (cut_any _ x s _ _ HX3.out.read Hs.out).mono ?_
        rw [Hcr.out]
        rintro e w4 ⟨rfl, hb4⟩
        have HB4 := Lib.hid (HB3.out.trans (hb4.mono HB3.out.size))
        have HX4 := Lib.hid (HX3.out.below hb4)
        have HM4 := Lib.hid (HM3.out.below hb4)
        clear hb4 HB3 HX3 HM3 d0 d1 d2 d3 d4
        have d0 := HX4.out.c0
        have d1 := HX4.out.c1
        have d2 := HX4.out.c2
        have d3 := HX4.out.c3
        have d4 := HX4.out.c4
        go_wp2_with fail
        refine (join_any _ x _ _ _ HX4.out.read (by omega) (by omega)).mono ?_
        rw [Hout.out]
        rintro e w5 ⟨rfl, hb5⟩
        have HB5 := Lib.hid (HB4.out.trans (hb5.mono HB4.out.size))
        have HX5 := Lib.hid (HX4.out.below hb5)
        have HM5 := Lib.hid (HM4.out.below hb5)
        clear hb5 HB4 HX4 HM4 d0 d1 d2 d3 d4
        have d0 := HX5.out.c0
        have d1 := HX5.out.c1
        have d2 := HX5.out.c2
        have d3 := HX5.out.c3
        have d4 := HX5.out.c4
        cases hlo : isLong (outB x s)
        all_goals
          have Hlo := Lib.hid hlo
          go_wp2_with fail
          refine (isLong_any _ _ Hz.out).mono ?_
          rw [hlo]
          rintro e w6 ⟨rfl, hb6⟩
          clear hlo
          go_wp2
          go_ret2
        · exact ⟨ret_si (by rw [appV_ap Ha.out Hl.out, apV_far Hm.out Hlo.out]), HB5.out.trans (hb6.mono HB5.out.size)⟩
        · exact ⟨ret_si (by rw [appV_ap Ha.out Hl.out, apV_yes Hm.out Hlo.out]), HB5.out.trans (hb6.mono HB5.out.size)⟩
end Go.Proofs.YtgefgdkejenhnaaDoor
