/- The functions of the reference on an affix that lies at any offset. Conditions: the readings; words of bounded length. -/
import Derived.Test.YtgefgdkejenhnaaDoorGc
import Derived.Test.YtgefgdkejenhnaaDoorVg
namespace Go.Proofs.YtgefgdkejenhnaaDoor
open Go.RowKit
theorem AffAt.below {w w' : World} {g o x} (h : AffAt w g o x) (hb : Below w.heap.size w w') : AffAt w' g o x :=
  ⟨cell_below hb h.c0, cell_below hb h.c1, cell_below hb h.c2, cell_below hb h.c3, cell_below hb h.c4, h.l⟩
theorem AffAt.drewN {w : World} {g o x} (h : AffAt w g o x) (q : Nat) : AffAt (w.drewN q) g o x := h.below (below_drewN (Below.refl _ _) q)
attribute [local irreducible] Calls
theorem l04EndAt_yes (g o : Nat) (x : AffD) (s : ByteArray) (z : Int) (n : Nat) (w : World) (h1 : w.cell? ⟨g, o + 1, none⟩ = some (.bool x.front)) (hs : s.size ≤ maxLen) (hz : z = (n : Int)) (hn : n ≤ s.size) :
    Calls Tryd.prog 117 #[.pointer (some ⟨g, o, none⟩), .string s, .int .i64 z] w fun e w' => e = .returned (.tuple #[.string (endB x s n), .bool true]) ∧ w = w' := by
  subst hz
  unfold maxLen at hs
  have hd : (((s.size : Int)) - (n : Int)).toNat = s.size - n := by omega
  have Hd := Lib.hid hd
  clear hd
  cases hf : x.front
  all_goals
    have Hf := Lib.hid hf
    rw [hf] at h1
    clear hf
    go_enter Tryd.func117, Tryd.ntmps117
    go_wp2
    go_ret2
    exact ⟨ret_sb (by rw [endB, Hf.out]; first | rfl | (rw [Hd.out]; rfl)) rfl, rfl⟩
theorem l04EndAt_no (g o : Nat) (x : AffD) (s : ByteArray) (z : Int) (n : Nat) (w : World) (_h1 : w.cell? ⟨g, o + 1, none⟩ = some (.bool x.front)) (_hs : s.size ≤ maxLen) (hz : z = (n : Int)) (hn : s.size < n) :
    Calls Tryd.prog 117 #[.pointer (some ⟨g, o, none⟩), .string s, .int .i64 z] w fun e w' => e = .returned (.tuple #[.string ⟨#[]⟩, .bool false]) ∧ w = w' := by
  subst hz
  unfold maxLen at _hs
  go_enter Tryd.func117, Tryd.ntmps117
  go_wp2
  go_ret2
  exact ⟨rfl, rfl⟩
theorem l04RestAt_any (g o : Nat) (x : AffD) (s : ByteArray) (z : Int) (n : Nat) (w : World) (h1 : w.cell? ⟨g, o + 1, none⟩ = some (.bool x.front)) (hs : s.size ≤ maxLen) (hz : z = (n : Int)) (hn : n ≤ s.size) :
    Calls Tryd.prog 103 #[.pointer (some ⟨g, o, none⟩), .string s, .int .i64 z] w fun e w' => e = .returned (.string (restB x s n)) ∧ w = w' := by
  subst hz
  unfold maxLen at hs
  have hd : (((s.size : Int)) - (n : Int)).toNat = s.size - n := by omega
  have Hd := Lib.hid hd
  clear hd
  cases hf : x.front
  all_goals
    have Hf := Lib.hid hf
    rw [hf] at h1
    clear hf
    go_enter Tryd.func103, Tryd.ntmps103
    go_wp2
    go_ret
    exact ⟨ret_str (by rw [restB, Hf.out]; first | rfl | (rw [Hd.out]; rfl)), rfl⟩
theorem l04JoinAt_any (g o : Nat) (x : AffD) (r p : ByteArray) (w : World) (h1 : w.cell? ⟨g, o + 1, none⟩ = some (.bool x.front)) (hr : r.size ≤ 1048576) (hp : p.size ≤ 1048576) :
    Calls Tryd.prog 102 #[.pointer (some ⟨g, o, none⟩), .string r, .string p] w fun e w' => e = .returned (.string (joinB x r p)) ∧ w = w' := by
  cases hf : x.front
  all_goals
    have Hf := Lib.hid hf
    rw [hf] at h1
    clear hf
    go_enter Tryd.func102, Tryd.ntmps102
    go_wp2
    go_ret
    exact ⟨ret_str (by rw [joinB, Hf.out]; rfl), rfl⟩
set_option maxHeartbeats 4000000 in
set_option maxRecDepth 20000 in
theorem l04MatchesAt_any (g o : Nat) (x : AffD) (s : ByteArray) (w : World) (hx : AffAt w g o x) (hs : s.size ≤ maxLen) :
    Calls Tryd.prog 101 #[.pointer (some ⟨g, o, none⟩), .string s] w fun e w' => e = .returned (.bool (matB x s)) ∧ ∃ q, w' = w.drewN q := by
  have HX := Lib.hid hx
  have c1 := hx.c1
  have c2 := hx.c2
  have c3 := hx.c3
  have hl2 := hx.l.c
  have hl3 := hx.l.s
  have Hs := Lib.hid hs
  unfold maxLen at hl2 hl3 hs
  clear hx
  by_cases hc : x.cond.size ≤ s.size
  · have HC := Lib.hid hc
    have HEs := Lib.hid (endB_size (x := x) hc)
    obtain ⟨E, hE⟩ : ∃ E, E = endB x s x.cond.size := ⟨_, rfl⟩
    have HE := Lib.hid hE
    rw [← hE] at HEs
    clear hE
    go_enter Tryd.func101, Tryd.ntmps101
    go_wp2_with fail
    refine (l04EndAt_yes g o x s _ x.cond.size _ c1 Hs.out rfl hc).mono ?_
    rw [← HE.out]
    rintro e w1 ⟨rfl, rfl⟩
    go_wp2
    go_loopw [7] (fun i wr => ∃ k q : Nat, k ≤ x.cond.size ∧ i = .int .i64 (k : Int) ∧ Hid (wildTo x.cond E k) ∧ wr = w.drewN q) (fun i _ => x.cond.size - (intOf i).toNat)
    case atStart => exact ⟨0, 0, by omega, rfl, Lib.hid fun i h => by omega, rfl⟩
    case round =>
      obtain ⟨k, q, hk, rfl, Hl, hw⟩ := hrel
      have HXr := Lib.hid (show AffAt wr g o x by rw [hw]; exact HX.out.drewN q)
      have Hw := Lib.hid hw
      have k1 := HXr.out.c1
      have k2 := HXr.out.c2
      have k3 := HXr.out.c3
      clear hw c1 c2 c3
      by_cases hlt : k < x.cond.size
      · have hkE : k < E.size := by have := HEs.out; omega
        have hkI : (k : Int) < (x.cond.size : Int) := by omega
        have hkI2 : (k : Int) < (E.size : Int) := by omega
        cases hd : ((x.cond[k].toNat : Int) == 46)
        · have Hd := Lib.hid (not46 hd)
          have hb1 : ((x.cond[k].toNat : Int) != 46) = true := by rw [bne, hd]; rfl
          cases he : ((x.cond[k].toNat : Int) == (E[k].toNat : Int))
          · have He := Lib.hid (u8_ne he)
            have hb2 : ((x.cond[k].toNat : Int) != (E[k].toNat : Int)) = true := by rw [bne, he]; rfl
            go_wp2
            go_quiet (fail)
            go_wp2
            go_ret
            exact ⟨ret_bool (matB_at HE.out hlt hkE Hd.out He.out), q + nq, by rw [Hw.out, drewN_twoG]⟩
          · have He := Lib.hid (u8_eq he)
            have hb2 : ((x.cond[k].toNat : Int) != (E[k].toNat : Int)) = false := by rw [bne, he]; rfl
            go_wp2
            go_quiet (fail)
            go_wp2
            go_roundw
            case rel => exact ⟨k + 1, q + nq, by omega, by go_num, Lib.hid (Hl.out.step hlt hkE (.inr He.out)), by rw [Hw.out, drewN_twoG]⟩
            case measure => simp [intOf]; omega
        · have Hd := Lib.hid (is46 hd)
          have hb1 : ((x.cond[k].toNat : Int) != 46) = false := by rw [bne, hd]; rfl
          go_wp2
          go_quiet (fail)
          go_wp2
          go_roundw
          case rel => exact ⟨k + 1, q + nq, by omega, by go_num, Lib.hid (Hl.out.step hlt hkE (.inl Hd.out)), by rw [Hw.out, drewN_twoG]⟩
          case measure => simp [intOf]; omega
      · have hd0 : decide (k < E.size) = false := by rw [decide_eq_false_iff_not]; have := HEs.out; omega
        have HW := Lib.hid (show wildTo x.cond (endB x s x.cond.size) x.cond.size by rw [← HE.out]; obtain rfl : k = x.cond.size := (by omega); exact Hl.out)
        by_cases hst : x.strip.size ≤ s.size
        · have HST := Lib.hid hst
          cases he : ((endB x s x.strip.size).toList == x.strip.toList)
          all_goals
            have He := Lib.hid he
            go_wp2_with fail
            refine (l04EndAt_yes g o x s _ x.strip.size _ k1 Hs.out rfl hst).mono ?_
            rintro e w1 ⟨rfl, rfl⟩
            go_wp2
            go_ret
          · exact ⟨ret_bool (matB_cut HC.out HW.out (cutB_no2 (bytes_ne_of He.out))), q, Hw.out⟩
          · exact ⟨ret_bool (matB_cut HC.out HW.out (cutB_iff.2 ⟨HST.out, bytes_eq_of He.out⟩)), q, Hw.out⟩
        · have HST := Lib.hid hst
          go_wp2_with fail
          refine (l04EndAt_no g o x s _ x.strip.size _ k1 Hs.out rfl (by omega)).mono ?_
          rintro e w1 ⟨rfl, rfl⟩
          go_wp2
          go_ret
          exact ⟨ret_bool (matB_cut HC.out HW.out (cutB_no1 HST.out)), q, Hw.out⟩
  · have HC := Lib.hid hc
    go_enter Tryd.func101, Tryd.ntmps101
    go_wp2_with fail
    refine (l04EndAt_no g o x s _ x.cond.size _ c1 Hs.out rfl (by omega)).mono ?_
    rintro e w1 ⟨rfl, rfl⟩
    go_wp2
    go_ret
    exact ⟨ret_bool (matB_short HC.out), 0, rfl⟩
set_option maxHeartbeats 2000000 in
set_option maxRecDepth 20000 in
theorem l04ApplyAt_any (g o : Nat) (x : AffD) (s : ByteArray) (w : World) (hx : AffAt w g o x) (ha : affB x = true) (hl : isLong s = true) :
    Calls Tryd.prog 82 #[.pointer (some ⟨g, o, none⟩), .string s] w fun e w' => e = .returned (.tuple #[.string (apV x s).1, .int .i64 (apV x s).2]) ∧ Below w.heap.size w w' := by
  have HX := Lib.hid hx
  have Ha := Lib.hid ha
  have h12 := isLong_12 hl
  have Hs := Lib.hid (le_max h12)
  have hl3 := hx.l.s
  have hl4 := hx.l.a
  unfold maxLen at hl3 hl4
  clear hx ha hl
  cases hm : matB x s
  · have Hm := Lib.hid hm
    go_enter Tryd.func82, Tryd.ntmps82
    go_wp2_with fail
    refine (l04MatchesAt_any g o x s _ HX.out Hs.out).mono ?_
    rw [hm]
    rintro e w1 ⟨rfl, q, rfl⟩
    go_wp2
    go_ret2
    exact ⟨ret_si (apV_no Hm.out), below_drewN (Below.refl _ _) q⟩
  · have Hm := Lib.hid hm
    have hpn := (cutB_iff.1 (matB_strip hm)).1
    obtain ⟨hz1, hz2, hz3⟩ := out_size Ha.out h12 hpn
    have Hz := Lib.hid (le_max hz3)
    have Hout := Lib.hid (show joinB x (restB x s x.strip.size) x.add = outB x s from rfl)
    go_enter Tryd.func82, Tryd.ntmps82
    go_wp2_with fail
    refine (l04MatchesAt_any g o x s _ HX.out Hs.out).mono ?_
    rw [hm]
    rintro e w1 ⟨rfl, q, hw1⟩
    have HB1 := Lib.hid (show Below w.heap.size w w1 by rw [hw1]; exact below_drewN (Below.refl _ _) q)
    have k1 := (HX.out.below HB1.out).c1
    have k3 := (HX.out.below HB1.out).c3
    have k4 := (HX.out.below HB1.out).c4
    clear hw1 hm
    go_wp2
    go_quiet ((first | (go_at_call 103; exact quiet_eq (l04RestAt_any g o x s _ x.strip.size _ k1 Hs.out rfl hpn)) | (go_at_call 102; exact quiet_eq (l04JoinAt_any g o x _ _ _ k1 (by omega) (by omega)))))
    rw [Hout.out]
    have HB2 := Lib.hid (below_drewN HB1.out nq)
    generalize w1.drewN nq = w2 at HB2 ⊢
    clear k1 k3 k4
    cases hlo : isLong (outB x s)
    all_goals
      have Hlo := Lib.hid hlo
      go_wp2_with fail
      refine (l05Long_any _ _ Hz.out).mono ?_
      rw [hlo]
      rintro e w3 ⟨rfl, rfl⟩
      clear hlo
      go_wp2
      go_ret2
    · exact ⟨ret_si (apV_far Hm.out Hlo.out), HB2.out⟩
    · exact ⟨ret_si (apV_yes Hm.out Hlo.out), HB2.out⟩

end Go.Proofs.YtgefgdkejenhnaaDoor
