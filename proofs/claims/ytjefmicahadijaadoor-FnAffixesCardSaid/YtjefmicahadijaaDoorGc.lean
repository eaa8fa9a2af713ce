/- MatchesAffix, ApplyAffix, UndoAffix of both sides. Conditions: the readings; strings of at most 2^20 bytes; MaxLen's cell. -/
import Derived.Test.YtjefmicahadijaaDoorGb
namespace Go.Proofs.YtjefmicahadijaaDoor
open Go.RowKit
attribute [local irreducible] Calls
theorem out_size {x : AffD} {s : ByteArray} (ha : affB x = true) (hs : s.size ≤ 12) (hp : x.strip.size ≤ s.size) : (restB x s x.strip.size).size ≤ 12 ∧ x.add.size ≤ 4 ∧ (outB x s).size ≤ 16 := by
  have h4 := lettersB_le (affB_parts ha).2.2.2.1
  have h1 := restB_size (x := x) hp
  have h2 := joinB_size x (restB x s x.strip.size) x.add
  unfold outB
  omega
theorem und_size {x : AffD} {s : ByteArray} (ha : affB x = true) (hs : s.size ≤ 12) (hp : x.add.size ≤ s.size) : (restB x s x.add.size).size ≤ 12 ∧ x.strip.size ≤ 4 ∧ (undB x s).size ≤ 16 := by
  have h4 := lettersB_le (affB_parts ha).2.2.1
  have h1 := restB_size (x := x) hp
  have h2 := joinB_size x (restB x s x.add.size) x.strip
  unfold undB
  omega
theorem le_max {n m : Nat} (h : n ≤ m) (hm : m ≤ 1048576 := by omega) : n ≤ maxLen := by unfold maxLen; omega
noncomputable def mafV (x : AffD) (s : ByteArray) : Bool := affB x && isLong s && matB x s
set_option maxHeartbeats 2000000 in
set_option maxRecDepth 20000 in
theorem l04Apply_any (g : Nat) (x : AffD) (s : ByteArray) (w : World) (hx : AffBox w g x) (ha : affB x = true) (hl : isLong s = true) :
    Calls Tryd.prog 47 #[.pointer (some ⟨g, 0, none⟩), .string s] w fun e w' => e = .returned (.tuple #[.string (apV x s).1, .int .i64 (apV x s).2]) ∧ Below w.heap.size w w' := by
  have HX := Lib.hid hx
  have Ha := Lib.hid ha
  have h12 := isLong_12 hl
  have Hs := Lib.hid (le_max h12)
  have hl3 := hx.l.s
  have hl4 := hx.l.a
  unfold maxLen at hl3 hl4
  clear hx ha hl
  cases hm : matB x s
  · have Hm := Lib.hid hm
    go_enter Tryd.func47, Tryd.ntmps47
    go_wp2_with fail
    refine (l04Matches_any g x s _ HX.out Hs.out).mono ?_
    rw [hm]
    rintro e w1 ⟨rfl, q, rfl⟩
    go_wp2
    go_ret2
    exact ⟨ret_si (apV_no Hm.out), below_drewN (Below.refl _ _) q⟩
  · have Hm := Lib.hid hm
    have hpn := (cutB_iff.1 (matB_strip hm)).1
    obtain ⟨hz1, hz2, hz3⟩ := out_size Ha.out h12 hpn
    have Hz := Lib.hid (le_max hz3)
    have Hout := Lib.hid (show joinB x (restB x s x.strip.size) x.add = outB x s from rfl)
    go_enter Tryd.func47, Tryd.ntmps47
    go_wp2_with fail
    refine (l04Matches_any g x s _ HX.out Hs.out).mono ?_
    rw [hm]
    rintro e w1 ⟨rfl, q, hw1⟩
    have HB1 := Lib.hid (show Below w.heap.size w w1 by rw [hw1]; exact below_drewN (Below.refl _ _) q)
    have k1 := (HX.out.below HB1.out).c1
    have k3 := (HX.out.below HB1.out).c3
    have k4 := (HX.out.below HB1.out).c4
    clear hw1 hm
    go_wp2
    go_quiet ((first | (go_at_call 52; exact quiet_eq (l04Rest_any g x s _ x.strip.size _ k1 Hs.out rfl hpn)) | (go_at_call 51; exact quiet_eq (l04Join_any g x _ _ _ k1 (by omega) (by omega)))))
    rw [Hout.out]
    have HB2 := Lib.hid (below_drewN HB1.out nq)
    generalize w1.drewN nq = w2 at HB2 ⊢
    clear k1 k3 k4
    cases hlo : isLong (outB x s)
    all_goals
      have Hlo := Lib.hid hlo
      go_wp2_with fail
      refine (l05Long_any _ _ Hz.out).mono ?_
      rw [hlo]
      rintro e w3 ⟨rfl, rfl⟩
      clear hlo
      go_wp2
      go_ret2
    · exact ⟨ret_si (apV_far Hm.out Hlo.out), HB2.out⟩
    · exact ⟨ret_si (apV_yes Hm.out Hlo.out), HB2.out⟩
set_option maxHeartbeats 2000000 in
set_option maxRecDepth 20000 in
theorem specMatchesAffix_any (v : Value) (x : AffD) (s : ByteArray) (w : World) (hv : AffR w v x) (hs : s.size ≤ 1048576) (_hm : MaxL w) :
    Calls Tryd.prog 15 #[v, .string s] w fun e w' => e = .returned (.bool (mafV x s)) ∧ Below w.heap.size w w' := by
  obtain rfl := hv.1
  have hb0 : Below w.heap.size w (w.alloc (.cells #[.string x.name, .bool x.front, .string x.cond, .string x.strip, .string x.add] 26)) := (Below.refl _ _).alloc (Nat.le_refl _) _
  have HX := Lib.hid (hv.box 26)
  have Hs := Lib.hid (le_max hs)
  clear hv
  cases ha : affB x
  · have Ha := Lib.hid ha
    go_enter Tryd.func15, Tryd.ntmps15
    go_wp2_with fail
    refine (l04Affix_any _ x _ HX.out).mono ?_
    rw [ha]
    rintro e w1 ⟨rfl, q, rfl⟩
    go_wp2
    go_ret
    exact ⟨ret_bool (by rw [mafV, Ha.out]; rfl), below_drewN hb0 q⟩
  · have Ha := Lib.hid ha
    cases hl : isLong s
    all_goals
      have Hl := Lib.hid hl
      go_enter Tryd.func15, Tryd.ntmps15
      go_wp2_with fail
      refine (l04Affix_any _ x _ HX.out).mono ?_
      rw [ha]
      rintro e w1 ⟨rfl, q, hw1⟩
      have HB1 := Lib.hid (show Below w.heap.size w w1 by rw [hw1]; exact below_drewN hb0 q)
      have HX1 := Lib.hid (show AffBox w1 w.heap.size x by rw [hw1]; exact HX.out.drewN q)
      clear hw1 hb0 HX
      go_wp2_with fail
      refine (l05Long_any _ _ Hs.out).mono ?_
      rw [hl]
      rintro e w2 ⟨rfl, rfl⟩
      clear hl
    · go_wp2
      go_ret
      exact ⟨ret_bool (by rw [mafV, Hl.out]; simp), HB1.out⟩
    · go_wp2_with fail
      refine (l04Matches_any _ x s _ HX1.out Hs.out).mono ?_
      rintro e w3 ⟨rfl, q3, rfl⟩
      go_wp2
      go_ret
      exact ⟨ret_bool (by rw [mafV, Ha.out, Hl.out]; rfl), below_drewN HB1.out q3⟩
set_option maxHeartbeats 2000000 in
set_option maxRecDepth 20000 in
theorem specApplyAffix_any (v : Value) (x : AffD) (s : ByteArray) (w : World) (hv : AffR w v x) (hs : s.size ≤ 1048576) (_hm : MaxL w) :
    Calls Tryd.prog 17 #[v, .string s] w fun e w' => e = .returned (.tuple #[.string (appV x s).1, .int .i64 (appV x s).2]) ∧ Below w.heap.size w w' := by
  obtain rfl := hv.1
  have hb0 : Below w.heap.size w (w.alloc (.cells #[.string x.name, .bool x.front, .string x.cond, .string x.strip, .string x.add] 26)) := (Below.refl _ _).alloc (Nat.le_refl _) _
  have HX := Lib.hid (hv.box 26)
  have Hs := Lib.hid (le_max hs)
  clear hv
  cases ha : affB x
  · have Ha := Lib.hid ha
    go_enter Tryd.func17, Tryd.ntmps17
    go_wp2_with fail
    refine (l04Affix_any _ x _ HX.out).mono ?_
    rw [ha]
    rintro e w1 ⟨rfl, q, rfl⟩
    go_wp2
    go_ret2
    exact ⟨ret_si (appV_bad Ha.out), below_drewN hb0 q⟩
  · have Ha := Lib.hid ha
    cases hl : isLong s
    all_goals
      have Hl := Lib.hid hl
      go_enter Tryd.func17, Tryd.ntmps17
      go_wp2_with fail
      refine (l04Affix_any _ x _ HX.out).mono ?_
      rw [ha]
      rintro e w1 ⟨rfl, q, hw1⟩
      have HB1 := Lib.hid (show Below w.heap.size w w1 by rw [hw1]; exact below_drewN hb0 q)
      have HX1 := Lib.hid (show AffBox w1 w.heap.size x by rw [hw1]; exact HX.out.drewN q)
      clear hw1 hb0 HX
      go_wp2_with fail
      refine (l05Long_any _ _ Hs.out).mono ?_
      rw [hl]
      rintro e w2 ⟨rfl, rfl⟩
      clear hl
    · go_wp2
      go_ret2
      exact ⟨ret_si (appV_short Ha.out Hl.out), HB1.out⟩
    · go_wp2_with fail
      refine (l04Apply_any _ x s _ HX1.out Ha.out Hl.out).mono ?_
      rw [← appV_ap Ha.out Hl.out]
      rintro e w3 ⟨rfl, hb3⟩
      go_wp2
      go_ret2
      exact ⟨rfl, HB1.out.trans (hb3.mono HB1.out.size)⟩
set_option maxHeartbeats 2000000 in
set_option maxRecDepth 20000 in
theorem specUndoAffix_any (v : Value) (x : AffD) (s : ByteArray) (w : World) (hv : AffR w v x) (hs : s.size ≤ 1048576) (_hm : MaxL w) :
    Calls Tryd.prog 19 #[v, .string s] w fun e w' => e = .returned (.tuple #[.string (undV x s).1, .int .i64 (undV x s).2]) ∧ Below w.heap.size w w' := by
  obtain rfl := hv.1
  have hb0 : Below w.heap.size w (w.alloc (.cells #[.string x.name, .bool x.front, .string x.cond, .string x.strip, .string x.add] 26)) := (Below.refl _ _).alloc (Nat.le_refl _) _
  have HX := Lib.hid (hv.box 26)
  have Hs := Lib.hid (le_max hs)
  clear hv
  cases ha : affB x
  · have Ha := Lib.hid ha
    go_enter Tryd.func19, Tryd.ntmps19
    go_wp2_with fail
    refine (l04Affix_any _ x _ HX.out).mono ?_
    rw [ha]
    rintro e w1 ⟨rfl, q, rfl⟩
    go_wp2
    go_ret2
    exact ⟨ret_si (undV_bad Ha.out), below_drewN hb0 q⟩
  · have Ha := Lib.hid ha
    cases hl : isLong s
    all_goals
      have Hl := Lib.hid hl
      go_enter Tryd.func19, Tryd.ntmps19
      go_wp2_with fail
      refine (l04Affix_any _ x _ HX.out).mono ?_
      rw [ha]
      rintro e w1 ⟨rfl, q, hw1⟩
      have HB1 := Lib.hid (show Below w.heap.size w w1 by rw [hw1]; exact below_drewN hb0 q)
      have HX1 := Lib.hid (show AffBox w1 w.heap.size x by rw [hw1]; exact HX.out.drewN q)
      clear hw1 hb0 HX
      go_wp2_with fail
      refine (l05Long_any _ _ Hs.out).mono ?_
      rw [hl]
      rintro e w2 ⟨rfl, rfl⟩
      clear hl
    · go_wp2
      go_ret2
      exact ⟨ret_si (undV_short Ha.out Hl.out), HB1.out⟩
    · have h12 := isLong_12 Hl.out
      have k1 := HX1.out.c1
      have k3 := HX1.out.c3
      have k4 := HX1.out.c4
      have hl3 := HX1.out.l.s
      have hl4 := HX1.out.l.a
      unfold maxLen at hl3 hl4
      by_cases hn : x.add.size ≤ s.size
      · have HN := Lib.hid hn
        cases he : ((endB x s x.add.size).toList == x.add.toList)
        · have He := Lib.hid (bytes_ne_of he)
          have he2 : ((endB x s x.add.size).toList != x.add.toList) = true := by rw [bne, he]; rfl
          go_wp2_with fail
          refine (l04End_yes _ x s _ x.add.size _ k1 Hs.out rfl hn).mono ?_
          rintro e w3 ⟨rfl, rfl⟩
          go_wp2
          go_ret2
          exact ⟨ret_si (undV_cut Ha.out Hl.out (cutB_no2 He.out)), HB1.out⟩
        · have He := Lib.hid (bytes_eq_of he)
          have he2 : ((endB x s x.add.size).toList != x.add.toList) = false := by rw [bne, he]; rfl
          have HC := Lib.hid (cutB_iff.2 ⟨hn, He.out⟩ : cutB x s x.add = true)
          obtain ⟨hz1, hz2, hz3⟩ := und_size Ha.out h12 hn
          have Hz := Lib.hid (le_max hz3)
          have Hout := Lib.hid (show joinB x (restB x s x.add.size) x.strip = undB x s from rfl)
          go_wp2_with fail
          refine (l04End_yes _ x s _ x.add.size _ k1 Hs.out rfl hn).mono ?_
          rintro e w3 ⟨rfl, rfl⟩
          go_wp2
          go_quiet ((first | (go_at_call 52; exact quiet_eq (l04Rest_any _ x s _ x.add.size _ k1 Hs.out rfl hn)) | (go_at_call 51; exact quiet_eq (l04Join_any _ x _ _ _ k1 (by omega) (by omega)))))
          rw [Hout.out]
          have HB2 := Lib.hid (below_drewN HB1.out nq)
          have HX2 := Lib.hid (HX1.out.drewN nq)
          clear k1 k3 k4 he he2
          generalize w1.drewN nq = w4 at HB2 HX2 ⊢
          cases hlo : isLong (undB x s)
          all_goals
            have Hlo := Lib.hid hlo
            go_wp2_with fail
            refine (l05Long_any _ _ Hz.out).mono ?_
            rw [hlo]
            rintro e w5 ⟨rfl, rfl⟩
            clear hlo
          · go_wp2
            go_ret2
            exact ⟨ret_si (undV_long Ha.out Hl.out HC.out Hlo.out), HB2.out⟩
          · cases hm : matB x (undB x s)
            all_goals
              have Hm := Lib.hid hm
              go_wp2_with fail
              refine (l04Matches_any _ x _ _ HX2.out Hz.out).mono ?_
              rw [hm]
              rintro e w6 ⟨rfl, q6, rfl⟩
              clear hm
              go_wp2
              go_ret2
            · exact ⟨ret_si (undV_mat Ha.out Hl.out HC.out Hm.out), below_drewN HB2.out q6⟩
            · exact ⟨ret_si (undV_yes Ha.out Hl.out HC.out Hlo.out Hm.out), below_drewN HB2.out q6⟩
      · have HN := Lib.hid hn
        go_wp2_with fail
        refine (l04End_no _ x s _ x.add.size _ k1 Hs.out rfl (by omega)).mono ?_
        rintro e w3 ⟨rfl, rfl⟩
        go_wp2
        go_ret2
        exact ⟨ret_si (undV_cut Ha.out Hl.out (cutB_no1 HN.out)), HB1.out⟩
set_option maxHeartbeats 2000000 in
set_option maxRecDepth 20000 in
theorem implMatchesAffix_any (v : Value) (x : AffD) (s : ByteArray) (w : World) (hv : AffR w v x) (hs : s.size ≤ 1048576) (hm : MaxL w) :
    Calls Tryd.prog 16 #[v, .string s] w fun e w' => e = .returned (.bool (mafV x s)) ∧ Below w.heap.size w w' := by
  obtain rfl := hv.1
  have hb0 : Below w.heap.size w (w.alloc (.cells #[.string x.name, .bool x.front, .string x.cond, .string x.strip, .string x.add] 26)) := (Below.refl _ _).alloc (Nat.le_refl _) _
  have HX := Lib.hid (hv.box 26)
  have Hs := Lib.hid (le_max hs)
  have HM0 := Lib.hid (hm.below hb0)
  clear hv hm
  have c0 := HX.out.c0
  have c1 := HX.out.c1
  have c2 := HX.out.c2
  have c3 := HX.out.c3
  have c4 := HX.out.c4
  cases ha : affB x
  · have Ha := Lib.hid ha
    go_enter Tryd.func16, Tryd.ntmps16
    go_wp2_with fail
    refine (implValidAffix_any _ x _ HX.out.read HM0.out).mono ?_
    rw [ha]
    rintro e w1 ⟨rfl, hb1⟩
    go_wp2
    go_ret
    exact ⟨ret_bool (by rw [mafV, Ha.out]; rfl), hb0.trans (hb1.mono hb0.size)⟩
  · have Ha := Lib.hid ha
    cases hl : isLong s
    all_goals
      have Hl := Lib.hid hl
      go_enter Tryd.func16, Tryd.ntmps16
      go_wp2_with fail
      refine (implValidAffix_any _ x _ HX.out.read HM0.out).mono ?_
      rw [ha]
      rintro e w1 ⟨rfl, hb1⟩
      have HB1 := Lib.hid (hb0.trans (hb1.mono hb0.size))
      have HX1 := Lib.hid (HX.out.below hb1)
      have HM1 := Lib.hid (HM0.out.below hb1)
      clear hb1 hb0 HX c0 c1 c2 c3 c4 HM0
      have d0 := HX1.out.c0
      have d1 := HX1.out.c1
      have d2 := HX1.out.c2
      have d3 := HX1.out.c3
      have d4 := HX1.out.c4
      go_wp2_with fail
      refine (isLong_any _ _ Hs.out).mono ?_
      rw [hl]
      rintro e w2 ⟨rfl, hb2⟩
      have HB2 := Lib.hid (HB1.out.trans (hb2.mono HB1.out.size))
      have HX2 := Lib.hid (HX1.out.below hb2)
      have HM2 := Lib.hid (HM1.out.below hb2)
      clear hl hb2 HB1 HX1 HM1 d0 d1 d2 d3 d4
    · go_wp2
      go_ret
      exact ⟨ret_bool (by rw [mafV, Hl.out]; simp), HB2.out⟩
    · have d0 := HX2.out.c0
      have d1 := HX2.out.c1
      have d2 := HX2.out.c2
      have d3 := HX2.out.c3
      have d4 := HX2.out.c4
      go_wp2_with fail
      refine (matches_any _ x s _ HX2.out.read Hs.out).mono ?_
      rintro e w3 ⟨rfl, hb3⟩
      go_wp2
      go_ret
      exact ⟨ret_bool (by rw [mafV, Ha.out, Hl.out]; rfl), HB2.out.trans (hb3.mono HB2.out.size)⟩
set_option maxHeartbeats 2000000 in
set_option maxRecDepth 20000 in
theorem implApplyAffix_any (v : Value) (x : AffD) (s : ByteArray) (w : World) (hv : AffR w v x) (hs : s.size ≤ 1048576) (hm : MaxL w) :
    Calls Tryd.prog 18 #[v, .string s] w fun e w' => e = .returned (.tuple #[.string (appV x s).1, .int .i64 (appV x s).2]) ∧ Below w.heap.size w w' := by
  obtain rfl := hv.1
  have hb0 : Below w.heap.size w (w.alloc (.cells #[.string x.name, .bool x.front, .string x.cond, .string x.strip, .string x.add] 26)) := (Below.refl _ _).alloc (Nat.le_refl _) _
  have HX := Lib.hid (hv.box 26)
  have Hs := Lib.hid (le_max hs)
  have HM0 := Lib.hid (hm.below hb0)
  clear hv hm
  have c0 := HX.out.c0
  have c1 := HX.out.c1
  have c2 := HX.out.c2
  have c3 := HX.out.c3
  have c4 := HX.out.c4
  cases ha : affB x
  · have Ha := Lib.hid ha
    go_enter Tryd.func18, Tryd.ntmps18
    go_wp2_with fail
    refine (implValidAffix_any _ x _ HX.out.read HM0.out).mono ?_
    rw [ha]
    rintro e w1 ⟨rfl, hb1⟩
    go_wp2
    go_ret2
    exact ⟨ret_si (appV_bad Ha.out), hb0.trans (hb1.mono hb0.size)⟩
  · have Ha := Lib.hid ha
    cases hl : isLong s
    all_goals
      have Hl := Lib.hid hl
      go_enter Tryd.func18, Tryd.ntmps18
      go_wp2_with fail
      refine (implValidAffix_any _ x _ HX.out.read HM0.out).mono ?_
      rw [ha]
      rintro e w1 ⟨rfl, hb1⟩
      have HB1 := Lib.hid (hb0.trans (hb1.mono hb0.size))
      have HX1 := Lib.hid (HX.out.below hb1)
      have HM1 := Lib.hid (HM0.out.below hb1)
      clear hb1 hb0 HX c0 c1 c2 c3 c4 HM0
      have d0 := HX1.out.c0
      have d1 := HX1.out.c1
      have d2 := HX1.out.c2
      have d3 := HX1.out.c3
      have d4 := HX1.out.c4
      go_wp2_with fail
      refine (isLong_any _ _ Hs.out).mono ?_
      rw [hl]
      rintro e w2 ⟨rfl, hb2⟩
      have HB2 := Lib.hid (HB1.out.trans (hb2.mono HB1.out.size))
      have HX2 := Lib.hid (HX1.out.below hb2)
      have HM2 := Lib.hid (HM1.out.below hb2)
      clear hl hb2 HB1 HX1 HM1 d0 d1 d2 d3 d4
    · go_wp2
      go_ret2
      exact ⟨ret_si (appV_short Ha.out Hl.out), HB2.out⟩
    · have d0 := HX2.out.c0
      have d1 := HX2.out.c1
      have d2 := HX2.out.c2
      have d3 := HX2.out.c3
      have d4 := HX2.out.c4
      have h12 := isLong_12 Hl.out
      cases hm : matB x s
      all_goals
        have Hm := Lib.hid hm
        go_wp2_with fail
        refine (matches_any _ x s _ HX2.out.read Hs.out).mono ?_
        rw [hm]
        rintro e w3 ⟨rfl, hb3⟩
        clear hm
        have HB3 := Lib.hid (HB2.out.trans (hb3.mono HB2.out.size))
        have HX3 := Lib.hid (HX2.out.below hb3)
        have HM3 := Lib.hid (HM2.out.below hb3)
        clear hb3 HB2 HX2 HM2 d0 d1 d2 d3 d4
        have d0 := HX3.out.c0
        have d1 := HX3.out.c1
        have d2 := HX3.out.c2
        have d3 := HX3.out.c3
        have d4 := HX3.out.c4
      · go_wp2
        go_ret2
        exact ⟨ret_si (by rw [appV_ap Ha.out Hl.out, apV_no Hm.out]), HB3.out⟩
      · have hpn := (cutB_iff.1 (matB_strip Hm.out)).1
        obtain ⟨hz1, hz2, hz3⟩ := out_size Ha.out h12 hpn
        have Hz := Lib.hid (le_max hz3)
        have Hout := Lib.hid (show joinB x (restB x s x.strip.size) x.add = outB x s from rfl)
        have Hcr := Lib.hid (cutR_yes (matB_strip Hm.out))
        go_wp2_with fail
        refine (cut_any _ x s _ _ HX3.out.read Hs.out).mono ?_
        rw [Hcr.out]
        rintro e w4 ⟨rfl, hb4⟩
        have HB4 := Lib.hid (HB3.out.trans (hb4.mono HB3.out.size))
        have HX4 := Lib.hid (HX3.out.below hb4)
        have HM4 := Lib.hid (HM3.out.below hb4)
        clear hb4 HB3 HX3 HM3 d0 d1 d2 d3 d4
        have d0 := HX4.out.c0
        have d1 := HX4.out.c1
        have d2 := HX4.out.c2
        have d3 := HX4.out.c3
        have d4 := HX4.out.c4
        go_wp2_with fail
        refine (join_any _ x _ _ _ HX4.out.read (by omega) (by omega)).mono ?_
        rw [Hout.out]
        rintro e w5 ⟨rfl, hb5⟩
        have HB5 := Lib.hid (HB4.out.trans (hb5.mono HB4.out.size))
        have HX5 := Lib.hid (HX4.out.below hb5)
        have HM5 := Lib.hid (HM4.out.below hb5)
        clear hb5 HB4 HX4 HM4 d0 d1 d2 d3 d4
        have d0 := HX5.out.c0
        have d1 := HX5.out.c1
        have d2 := HX5.out.c2
        have d3 := HX5.out.c3
        have d4 := HX5.out.c4
        cases hlo : isLong (outB x s)
        all_goals
          have Hlo := Lib.hid hlo
          go_wp2_with fail
          refine (isLong_any _ _ Hz.out).mono ?_
          rw [hlo]
          rintro e w6 ⟨rfl, hb6⟩
          clear hlo
          go_wp2
          go_ret2
        · exact ⟨ret_si (by rw [appV_ap Ha.out Hl.out, apV_far Hm.out Hlo.out]), HB5.out.trans (hb6.mono HB5.out.size)⟩
        · exact ⟨ret_si (by rw [appV_ap Ha.out Hl.out, apV_yes Hm.out Hlo.out]), HB5.out.trans (hb6.mono HB5.out.size)⟩
set_option maxHeartbeats 2000000 in
set_option maxRecDepth 20000 in
theorem implUndoAffix_any (v : Value) (x : AffD) (s : ByteArray) (w : World) (hv : AffR w v x) (hs : s.size ≤ 1048576) (hm : MaxL w) :
    Calls Tryd.prog 20 #[v, .string s] w fun e w' => e = .returned (.tuple #[.string (undV x s).1, .int .i64 (undV x s).2]) ∧ Below w.heap.size w w' := by
  obtain rfl := hv.1
  have hb0 : Below w.heap.size w (w.alloc (.cells #[.string x.name, .bool x.front, .string x.cond, .string x.strip, .string x.add] 26)) := (Below.refl _ _).alloc (Nat.le_refl _) _
  have HX := Lib.hid (hv.box 26)
  have Hs := Lib.hid (le_max hs)
  have HM0 := Lib.hid (hm.below hb0)
  clear hv hm
  have c0 := HX.out.c0
  have c1 := HX.out.c1
  have c2 := HX.out.c2
  have c3 := HX.out.c3
  have c4 := HX.out.c4
  cases ha : affB x
  · have Ha := Lib.hid ha
    go_enter Tryd.func20, Tryd.ntmps20
    go_wp2_with fail
    refine (implValidAffix_any _ x _ HX.out.read HM0.out).mono ?_
    rw [ha]
    rintro e w1 ⟨rfl, hb1⟩
    go_wp2
    go_ret2
    exact ⟨ret_si (undV_bad Ha.out), hb0.trans (hb1.mono hb0.size)⟩
  · have Ha := Lib.hid ha
    cases hl : isLong s
    all_goals
      have Hl := Lib.hid hl
      go_enter Tryd.func20, Tryd.ntmps20
      go_wp2_with fail
      refine (implValidAffix_any _ x _ HX.out.read HM0.out).mono ?_
      rw [ha]
      rintro e w1 ⟨rfl, hb1⟩
      have HB1 := Lib.hid (hb0.trans (hb1.mono hb0.size))
      have HX1 := Lib.hid (HX.out.below hb1)
      have HM1 := Lib.hid (HM0.out.below hb1)
      clear hb1 hb0 HX c0 c1 c2 c3 c4 HM0
      have d0 := HX1.out.c0
      have d1 := HX1.out.c1
      have d2 := HX1.out.c2
      have d3 := HX1.out.c3
      have d4 := HX1.out.c4
      go_wp2_with fail
      refine (isLong_any _ _ Hs.out).mono ?_
      rw [hl]
      rintro e w2 ⟨rfl, hb2⟩
      have HB2 := Lib.hid (HB1.out.trans (hb2.mono HB1.out.size))
      have HX2 := Lib.hid (HX1.out.below hb2)
      have HM2 := Lib.hid (HM1.out.below hb2)
      clear hl hb2 HB1 HX1 HM1 d0 d1 d2 d3 d4
    · go_wp2
      go_ret2
      exact ⟨ret_si (undV_short Ha.out Hl.out), HB2.out⟩
    · have d0 := HX2.out.c0
      have d1 := HX2.out.c1
      have d2 := HX2.out.c2
      have d3 := HX2.out.c3
      have d4 := HX2.out.c4
      have h12 := isLong_12 Hl.out
      cases hc : cutB x s x.add
      · have Hc := Lib.hid hc
        go_wp2_with fail
        refine (cut_any _ x s _ _ HX2.out.read Hs.out).mono ?_
        rw [hc]
        rintro e w3 ⟨rfl, hb3⟩
        clear hc
        go_wp2
        go_ret2
        exact ⟨ret_si (undV_cut Ha.out Hl.out Hc.out), HB2.out.trans (hb3.mono HB2.out.size)⟩
      · have Hc := Lib.hid hc
        have Hcr := Lib.hid (cutR_yes hc)
        have hpn := (cutB_iff.1 hc).1
        obtain ⟨hz1, hz2, hz3⟩ := und_size Ha.out h12 hpn
        have Hz := Lib.hid (le_max hz3)
        have Hout := Lib.hid (show joinB x (restB x s x.add.size) x.strip = undB x s from rfl)
        go_wp2_with fail
        refine (cut_any _ x s _ _ HX2.out.read Hs.out).mono ?_
        rw [hc, Hcr.out]
        rintro e w3 ⟨rfl, hb3⟩
        clear hc
        have HB3 := Lib.hid (HB2.out.trans (hb3.mono HB2.out.size))
        have HX3 := Lib.hid (HX2.out.below hb3)
        have HM3 := Lib.hid (HM2.out.below hb3)
        clear hb3 HB2 HX2 HM2 d0 d1 d2 d3 d4
        have d0 := HX3.out.c0
        have d1 := HX3.out.c1
        have d2 := HX3.out.c2
        have d3 := HX3.out.c3
        have d4 := HX3.out.c4
        go_wp2_with fail
        refine (join_any _ x _ _ _ HX3.out.read (by omega) (by omega)).mono ?_
        rw [Hout.out]
        rintro e w4 ⟨rfl, hb4⟩
        have HB4 := Lib.hid (HB3.out.trans (hb4.mono HB3.out.size))
        have HX4 := Lib.hid (HX3.out.below hb4)
        have HM4 := Lib.hid (HM3.out.below hb4)
        clear hb4 HB3 HX3 HM3 d0 d1 d2 d3 d4
        have d0 := HX4.out.c0
        have d1 := HX4.out.c1
        have d2 := HX4.out.c2
        have d3 := HX4.out.c3
        have d4 := HX4.out.c4
        cases hlo : isLong (undB x s)
        · have Hlo := Lib.hid hlo
          clear hlo
          go_wp2_with fail
          refine (implApplyAffix_any _ x _ _ HX4.out.read (by omega) HM4.out).mono ?_
          rw [appV_short Ha.out Hlo.out]
          rintro e w5 ⟨rfl, hb5⟩
          go_wp2
          go_ret2
          exact ⟨ret_si (undV_long Ha.out Hl.out Hc.out Hlo.out), HB4.out.trans (hb5.mono HB4.out.size)⟩
        · have Hlo := Lib.hid hlo
          clear hlo
          cases hm : matB x (undB x s)
          · have Hm := Lib.hid hm
            clear hm
            go_wp2_with fail
            refine (implApplyAffix_any _ x _ _ HX4.out.read (by omega) HM4.out).mono ?_
            rw [show appV x (undB x s) = (⟨#[]⟩, 3) by rw [appV_ap Ha.out Hlo.out, apV_no Hm.out]]
            rintro e w5 ⟨rfl, hb5⟩
            go_wp2
            go_ret2
            exact ⟨ret_si (undV_mat Ha.out Hl.out Hc.out Hm.out), HB4.out.trans (hb5.mono HB4.out.size)⟩
          · have Hm := Lib.hid hm
            have hself : (s.toList != s.toList) = false := by simp
            clear hm
            go_wp2_with fail
            refine (implApplyAffix_any _ x _ _ HX4.out.read (by omega) HM4.out).mono ?_
            rw [show appV x (undB x s) = (s, 0) by rw [appV_ap Ha.out Hlo.out, apV_yes Hm.out (by rw [out_und Hc.out]; exact Hl.out), out_und Hc.out]]
            rintro e w5 ⟨rfl, hb5⟩
            go_wp2
            go_ret2
            exact ⟨ret_si (undV_yes Ha.out Hl.out Hc.out Hlo.out Hm.out), HB4.out.trans (hb5.mono HB4.out.size)⟩
end Go.Proofs.YtjefmicahadijaaDoor
