/- Affixes: cut, join, matches, ApplyAffix, UndoAffix, of both sides. Conditions: the readings; strings of at most 2^20 bytes; MaxLen's cell. -/
import Derived.Test.YtgefgdkejenhnaaDoorGa
namespace Go.Proofs.YtgefgdkejenhnaaDoor
open Go.RowKit
/-- The first or the last n bytes; what is left of them; a word put together. -/
def endB (x : AffD) (w : ByteArray) (n : Nat) : ByteArray := if x.front then w.extract 0 n else w.extract (w.size - n) w.size
def restB (x : AffD) (w : ByteArray) (n : Nat) : ByteArray := if x.front then w.extract n w.size else w.extract 0 (w.size - n)
def joinB (x : AffD) (r p : ByteArray) : ByteArray := if x.front then p ++ r else r ++ p
def cutB (x : AffD) (w p : ByteArray) : Bool := if x.front then begP p w else finP p w
theorem cutB_iff {x : AffD} {w p : ByteArray} : cutB x w p = true ↔ p.size ≤ w.size ∧ endB x w p.size = p := by
  unfold cutB endB
  cases x.front
  · exact finP_iff
  · exact begP_iff
theorem cutB_no1 {x : AffD} {w p : ByteArray} (h : ¬ p.size ≤ w.size) : cutB x w p = false := by
  cases hb : cutB x w p
  · rfl
  · exact absurd (cutB_iff.1 hb).1 h
theorem cutB_no2 {x : AffD} {w p : ByteArray} (h : endB x w p.size ≠ p) : cutB x w p = false := by
  cases hb : cutB x w p
  · rfl
  · exact absurd (cutB_iff.1 hb).2 h
def cutR (x : AffD) (w p : ByteArray) : ByteArray := if x.front then ⟨(Lib.trimPrefix w.data.toList p.data.toList).toArray⟩ else ⟨(Lib.trimSuffix w.data.toList p.data.toList).toArray⟩
theorem cutR_yes {x : AffD} {w p : ByteArray} (h : cutB x w p = true) : cutR x w p = restB x w p.size := by
  unfold cutB at h
  unfold cutR restB
  cases hf : x.front
  · simp only [hf, Bool.false_eq_true, if_false] at h ⊢
    apply ba_inj
    show Lib.trimSuffix _ _ = _
    rw [ext_take, Lib.trimSuffix, if_pos (show Lib.hasSuffix _ _ = true from h), ba_sz, ba_sz]
  · simp only [hf, if_true] at h ⊢
    apply ba_inj
    show Lib.trimPrefix _ _ = _
    rw [ext_drop, Lib.trimPrefix, if_pos (show Lib.hasPrefix _ _ = true from h), ba_sz]
theorem endB_size {x : AffD} {w : ByteArray} {n : Nat} (h : n ≤ w.size) : (endB x w n).size = n := by
  unfold endB
  split
  · rw [ByteArray.size_extract]; omega
  · rw [ByteArray.size_extract]; omega
theorem restB_size {x : AffD} {w : ByteArray} {n : Nat} (h : n ≤ w.size) : (restB x w n).size = w.size - n := by
  unfold restB
  split
  · rw [ByteArray.size_extract]; omega
  · rw [ByteArray.size_extract]; omega
theorem joinB_size (x : AffD) (r p : ByteArray) : (joinB x r p).size = r.size + p.size := by
  unfold joinB
  split
  · rw [ByteArray.size_append]; omega
  · rw [ByteArray.size_append]
/-- The first k bytes of a condition hold. -/
def wildTo (c e : ByteArray) (k : Nat) : Prop := ∀ i, i < k → (h : i < c.size) → (h2 : i < e.size) → c[i] = 46 ∨ c[i] = e[i]
noncomputable instance (c e : ByteArray) (k : Nat) : Decidable (wildTo c e k) := Classical.propDecidable _
noncomputable def matB (x : AffD) (w : ByteArray) : Bool := decide (x.cond.size ≤ w.size) && decide (wildTo x.cond (endB x w x.cond.size) x.cond.size) && cutB x w x.strip
theorem matB_short {x : AffD} {w : ByteArray} (h : ¬ x.cond.size ≤ w.size) : false = matB x w := by rw [matB, decide_eq_false h]; rfl
theorem matB_wild {x : AffD} {w : ByteArray} (h : ¬ wildTo x.cond (endB x w x.cond.size) x.cond.size) : false = matB x w := by rw [matB, decide_eq_false h]; simp
theorem matB_cut {x : AffD} {w : ByteArray} {b : Bool} (h1 : x.cond.size ≤ w.size) (h2 : wildTo x.cond (endB x w x.cond.size) x.cond.size) (h3 : cutB x w x.strip = b) : b = matB x w := by rw [matB, decide_eq_true h1, decide_eq_true h2, h3]; rfl
theorem matB_strip {x : AffD} {w : ByteArray} (h : matB x w = true) : cutB x w x.strip = true := by
  simp only [matB, Bool.and_eq_true] at h; exact h.2
theorem wildTo.step {c e : ByteArray} {k : Nat} (h : wildTo c e k) (hk : k < c.size) (hk2 : k < e.size) (h2 : c[k] = 46 ∨ c[k] = e[k]) : wildTo c e (k + 1) := by
  intro i hi h3 h4
  by_cases he : i = k
  · subst he; exact h2
  · exact h i (by omega) h3 h4
theorem matB_at {x : AffD} {s E : ByteArray} {k : Nat} (hE : E = endB x s x.cond.size) (hk : k < x.cond.size) (hk2 : k < E.size) (h1 : x.cond[k] ≠ 46) (h2 : x.cond[k] ≠ E[k]) : false = matB x s := by
  refine matB_wild fun H => ?_
  subst hE
  rcases H k hk hk hk2 with h | h
  · exact h1 h
  · exact h2 h
theorem u8_ne {a b : UInt8} (h : ((a.toNat : Int) == (b.toNat : Int)) = false) : a ≠ b := by
  rintro rfl; simp at h
theorem u8_eq {a b : UInt8} (h : ((a.toNat : Int) == (b.toNat : Int)) = true) : a = b := by
  have := eq_of_beq h
  exact UInt8.toNat_inj.1 (by omega)
def outB (x : AffD) (w : ByteArray) : ByteArray := joinB x (restB x w x.strip.size) x.add
def undB (x : AffD) (w : ByteArray) : ByteArray := joinB x (restB x w x.add.size) x.strip
noncomputable def apV (x : AffD) (w : ByteArray) : ByteArray × Int := if matB x w then (if isLong (outB x w) then (outB x w, 0) else (⟨#[]⟩, 2)) else (⟨#[]⟩, 3)
noncomputable def appV (x : AffD) (w : ByteArray) : ByteArray × Int := if affB x then (if isLong w then apV x w else (⟨#[]⟩, 7)) else (⟨#[]⟩, 1)
noncomputable def undV (x : AffD) (w : ByteArray) : ByteArray × Int :=
  if affB x then (if isLong w then (if cutB x w x.add then (if isLong (undB x w) && matB x (undB x w) then (undB x w, 0) else (⟨#[]⟩, 3)) else (⟨#[]⟩, 3)) else (⟨#[]⟩, 7)) else (⟨#[]⟩, 1)
theorem apV_no {x : AffD} {w : ByteArray} (h : matB x w = false) : apV x w = (⟨#[]⟩, 3) := by simp [apV, h]
theorem apV_far {x : AffD} {w : ByteArray} (h : matB x w = true) (h2 : isLong (outB x w) = false) : apV x w = (⟨#[]⟩, 2) := by simp [apV, h, h2]
theorem apV_yes {x : AffD} {w : ByteArray} (h : matB x w = true) (h2 : isLong (outB x w) = true) : apV x w = (outB x w, 0) := by simp [apV, h, h2]
theorem appV_bad {x : AffD} {w : ByteArray} (h : affB x = false) : appV x w = (⟨#[]⟩, 1) := by simp [appV, h]
theorem appV_short {x : AffD} {w : ByteArray} (h : affB x = true) (h2 : isLong w = false) : appV x w = (⟨#[]⟩, 7) := by simp [appV, h, h2]
theorem appV_ap {x : AffD} {w : ByteArray} (h : affB x = true) (h2 : isLong w = true) : appV x w = apV x w := by simp [appV, h, h2]
theorem undV_bad {x : AffD} {w : ByteArray} (h : affB x = false) : undV x w = (⟨#[]⟩, 1) := by simp [undV, h]
theorem undV_short {x : AffD} {w : ByteArray} (h : affB x = true) (h2 : isLong w = false) : undV x w = (⟨#[]⟩, 7) := by simp [undV, h, h2]
theorem undV_cut {x : AffD} {w : ByteArray} (h : affB x = true) (h2 : isLong w = true) (h3 : cutB x w x.add = false) : undV x w = (⟨#[]⟩, 3) := by simp [undV, h, h2, h3]
theorem undV_long {x : AffD} {w : ByteArray} (h : affB x = true) (h2 : isLong w = true) (h3 : cutB x w x.add = true) (h4 : isLong (undB x w) = false) : undV x w = (⟨#[]⟩, 3) := by simp [undV, h, h2, h3, h4]
theorem undV_mat {x : AffD} {w : ByteArray} (h : affB x = true) (h2 : isLong w = true) (h3 : cutB x w x.add = true) (h5 : matB x (undB x w) = false) : undV x w = (⟨#[]⟩, 3) := by simp [undV, h, h2, h3, h5]
theorem undV_yes {x : AffD} {w : ByteArray} (h : affB x = true) (h2 : isLong w = true) (h3 : cutB x w x.add = true) (h4 : isLong (undB x w) = true) (h5 : matB x (undB x w) = true) : undV x w = (undB x w, 0) := by simp [undV, h, h2, h3, h4, h5]
theorem ba_app (a b : ByteArray) : (a ++ b).data.toList = a.data.toList ++ b.data.toList := by simp
theorem rest_join (x : AffD) (r p : ByteArray) : restB x (joinB x r p) p.size = r := by
  unfold restB joinB
  apply ba_inj
  cases x.front
  · simp only [Bool.false_eq_true, if_false]
    rw [ext_take, ByteArray.size_append, ba_app, Nat.add_sub_cancel, ← ba_sz, List.take_left]
  · simp only [if_true]
    rw [ext_drop, ba_app, ← ba_sz, List.drop_left]
theorem join_rest {x : AffD} {w p : ByteArray} (h : cutB x w p = true) : joinB x (restB x w p.size) p = w := by
  obtain ⟨h1, h2⟩ := cutB_iff.1 h
  unfold joinB restB
  unfold endB at h2
  apply ba_inj
  cases hf : x.front
  · simp only [hf, Bool.false_eq_true, if_false] at h2 ⊢
    conv => lhs; rw [ba_app]; arg 2; rw [← h2]
    rw [ext_drop, ext_take, List.take_append_drop]
  · simp only [hf, if_true] at h2 ⊢
    conv => lhs; rw [ba_app]; arg 1; rw [← h2]
    rw [ext_drop, ext_take, List.take_append_drop]
theorem out_und {x : AffD} {w : ByteArray} (h : cutB x w x.add = true) : outB x (undB x w) = w := by
  unfold outB undB
  rw [rest_join, join_rest h]
theorem isLong_12 {s : ByteArray} (h : isLong s = true) : s.size ≤ 12 := by
  simp only [isLong, isWord, inI, Bool.and_eq_true, decide_eq_true_eq] at h; omega
theorem ret_sb {a b : ByteArray} {c d : Bool} (h : a = b) (h2 : c = d) : Ending.returned (.tuple #[.string a, .bool c]) = .returned (.tuple #[.string b, .bool d]) := by rw [h, h2]
theorem ret_si {b : ByteArray} {m : Int} {r : ByteArray × Int} (h : r = (b, m)) : Ending.returned (.tuple #[.string b, .int .i64 m]) = .returned (.tuple #[.string r.1, .int .i64 r.2]) := by rw [h]
attribute [local irreducible] Calls
theorem l04End_yes (g : Nat) (x : AffD) (s : ByteArray) (z : Int) (n : Nat) (w : World) (h1 : w.cell? ⟨g, 1, none⟩ = some (.bool x.front)) (hs : s.size ≤ maxLen) (hz : z = (n : Int)) (hn : n ≤ s.size) :
    Calls Tryd.prog 117 #[.pointer (some ⟨g, 0, none⟩), .string s, .int .i64 z] w fun e w' => e = .returned (.tuple #[.string (endB x s n), .bool true]) ∧ w = w' := by
  subst hz
  unfold maxLen at hs
  have hd : (((s.size : Int)) - (n : Int)).toNat = s.size - n := by omega
  have Hd := Lib.hid hd
  clear hd
  cases hf : x.front
  all_goals
    have Hf := Lib.hid hf
    rw [hf] at h1
    clear hf
    go_enter Tryd.func117, Tryd.ntmps117
    go_wp2
    go_ret2
    exact ⟨ret_sb (by rw [endB, Hf.out]; first | rfl | (rw [Hd.out]; rfl)) rfl, rfl⟩
theorem l04End_no (g : Nat) (x : AffD) (s : ByteArray) (z : Int) (n : Nat) (w : World) (_h1 : w.cell? ⟨g, 1, none⟩ = some (.bool x.front)) (_hs : s.size ≤ maxLen) (hz : z = (n : Int)) (hn : s.size < n) :
    Calls Tryd.prog 117 #[.pointer (some ⟨g, 0, none⟩), .string s, .int .i64 z] w fun e w' => e = .returned (.tuple #[.string ⟨#[]⟩, .bool false]) ∧ w = w' := by
  subst hz
  unfold maxLen at _hs
  go_enter Tryd.func117, Tryd.ntmps117
  go_wp2
  go_ret2
  exact ⟨rfl, rfl⟩
theorem l04Rest_any (g : Nat) (x : AffD) (s : ByteArray) (z : Int) (n : Nat) (w : World) (h1 : w.cell? ⟨g, 1, none⟩ = some (.bool x.front)) (hs : s.size ≤ maxLen) (hz : z = (n : Int)) (hn : n ≤ s.size) :
    Calls Tryd.prog 103 #[.pointer (some ⟨g, 0, none⟩), .string s, .int .i64 z] w fun e w' => e = .returned (.string (restB x s n)) ∧ w = w' := by
  subst hz
  unfold maxLen at hs
  have hd : (((s.size : Int)) - (n : Int)).toNat = s.size - n := by omega
  have Hd := Lib.hid hd
  clear hd
  cases hf : x.front
  all_goals
    have Hf := Lib.hid hf
    rw [hf] at h1
    clear hf
    go_enter Tryd.func103, Tryd.ntmps103
    go_wp2
    go_ret
    exact ⟨ret_str (by rw [restB, Hf.out]; first | rfl | (rw [Hd.out]; rfl)), rfl⟩
theorem l04Join_any (g : Nat) (x : AffD) (r p : ByteArray) (w : World) (h1 : w.cell? ⟨g, 1, none⟩ = some (.bool x.front)) (hr : r.size ≤ 1048576) (hp : p.size ≤ 1048576) :
    Calls Tryd.prog 102 #[.pointer (some ⟨g, 0, none⟩), .string r, .string p] w fun e w' => e = .returned (.string (joinB x r p)) ∧ w = w' := by
  cases hf : x.front
  all_goals
    have Hf := Lib.hid hf
    rw [hf] at h1
    clear hf
    go_enter Tryd.func102, Tryd.ntmps102
    go_wp2
    go_ret
    exact ⟨ret_str (by rw [joinB, Hf.out]; rfl), rfl⟩
set_option maxHeartbeats 4000000 in
set_option maxRecDepth 20000 in
theorem l04Matches_any (g : Nat) (x : AffD) (s : ByteArray) (w : World) (hx : AffBox w g x) (hs : s.size ≤ maxLen) :
    Calls Tryd.prog 101 #[.pointer (some ⟨g, 0, none⟩), .string s] w fun e w' => e = .returned (.bool (matB x s)) ∧ ∃ q, w' = w.drewN q := by
  have HX := Lib.hid hx
  have c1 := hx.c1
  have c2 := hx.c2
  have c3 := hx.c3
  have hl2 := hx.l.c
  have hl3 := hx.l.s
  have Hs := Lib.hid hs
  unfold maxLen at hl2 hl3 hs
  clear hx
  by_cases hc : x.cond.size ≤ s.size
  · have HC := Lib.hid hc
    have HEs := Lib.hid (endB_size (x := x) hc)
    obtain ⟨E, hE⟩ : ∃ E, E = endB x s x.cond.size := ⟨_, rfl⟩
    have HE := Lib.hid hE
    rw [← hE] at HEs
    clear hE
    go_enter Tryd.func101, Tryd.ntmps101
    go_wp2_with fail
    refine (l04End_yes g x s _ x.cond.size _ c1 Hs.out rfl hc).mono ?_
    rw [← HE.out]
    rintro e w1 ⟨rfl, rfl⟩
    go_wp2
    go_loopw [7] (fun i wr => ∃ k q : Nat, k ≤ x.cond.size ∧ i = .int .i64 (k : Int) ∧ Hid (wildTo x.cond E k) ∧ wr = w.drewN q) (fun i _ => x.cond.size - (intOf i).toNat)
    case atStart => exact ⟨0, 0, by omega, rfl, Lib.hid fun i h => by omega, rfl⟩
    case round =>
      obtain ⟨k, q, hk, rfl, Hl, hw⟩ := hrel
      have HXr := Lib.hid (show AffBox wr g x by rw [hw]; exact HX.out.drewN q)
      have Hw := Lib.hid hw
      have k1 := HXr.out.c1
      have k2 := HXr.out.c2
      have k3 := HXr.out.c3
      clear hw c1 c2 c3
      by_cases hlt : k < x.cond.size
      · have hkE : k < E.size := by have := HEs.out; omega
        have hkI : (k : Int) < (x.cond.size : Int) := by omega
        have hkI2 : (k : Int) < (E.size : Int) := by omega
        cases hd : ((x.cond[k].toNat : Int) == 46)
        · have Hd := Lib.hid (not46 hd)
          have hb1 : ((x.cond[k].toNat : Int) != 46) = true := by rw [bne, hd]; rfl
          cases he : ((x.cond[k].toNat : Int) == (E[k].toNat : Int))
          · have He := Lib.hid (u8_ne he)
            have hb2 : ((x.cond[k].toNat : Int) != (E[k].toNat : Int)) = true := by rw [bne, he]; rfl
            go_wp2
            go_quiet (fail)
            go_wp2
            go_ret
            exact ⟨ret_bool (matB_at HE.out hlt hkE Hd.out He.out), q + nq, by rw [Hw.out, drewN_twoG]⟩
          · have He := Lib.hid (u8_eq he)
            have hb2 : ((x.cond[k].toNat : Int) != (E[k].toNat : Int)) = false := by rw [bne, he]; rfl
            go_wp2
            go_quiet (fail)
            go_wp2
            go_roundw
            case rel => exact ⟨k + 1, q + nq, by omega, by go_num, Lib.hid (Hl.out.step hlt hkE (.inr He.out)), by rw [Hw.out, drewN_twoG]⟩
            case measure => simp [intOf]; omega
        · have Hd := Lib.hid (is46 hd)
          have hb1 : ((x.cond[k].toNat : Int) != 46) = false := by rw [bne, hd]; rfl
          go_wp2
          go_quiet (fail)
          go_wp2
          go_roundw
          case rel => exact ⟨k + 1, q + nq, by omega, by go_num, Lib.hid (Hl.out.step hlt hkE (.inl Hd.out)), by rw [Hw.out, drewN_twoG]⟩
          case measure => simp [intOf]; omega
      · have hd0 : decide (k < E.size) = false := by rw [decide_eq_false_iff_not]; have := HEs.out; omega
        have HW := Lib.hid (show wildTo x.cond (endB x s x.cond.size) x.cond.size by rw [← HE.out]; obtain rfl : k = x.cond.size := (by omega); exact Hl.out)
        by_cases hst : x.strip.size ≤ s.size
        · have HST := Lib.hid hst
          cases he : ((endB x s x.strip.size).toList == x.strip.toList)
          all_goals
            have He := Lib.hid he
            go_wp2_with fail
            refine (l04End_yes g x s _ x.strip.size _ k1 Hs.out rfl hst).mono ?_
            rintro e w1 ⟨rfl, rfl⟩
            go_wp2
            go_ret
          · exact ⟨ret_bool (matB_cut HC.out HW.out (cutB_no2 (bytes_ne_of He.out))), q, Hw.out⟩
          · exact ⟨ret_bool (matB_cut HC.out HW.out (cutB_iff.2 ⟨HST.out, bytes_eq_of He.out⟩)), q, Hw.out⟩
        · have HST := Lib.hid hst
          go_wp2_with fail
          refine (l04End_no g x s _ x.strip.size _ k1 Hs.out rfl (by omega)).mono ?_
          rintro e w1 ⟨rfl, rfl⟩
          go_wp2
          go_ret
          exact ⟨ret_bool (matB_cut HC.out HW.out (cutB_no1 HST.out)), q, Hw.out⟩
  · have HC := Lib.hid hc
    go_enter Tryd.func101, Tryd.ntmps101
    go_wp2_with fail
    refine (l04End_no g x s _ x.cond.size _ c1 Hs.out rfl (by omega)).mono ?_
    rintro e w1 ⟨rfl, rfl⟩
    go_wp2
    go_ret
    exact ⟨ret_bool (matB_short HC.out), 0, rfl⟩
theorem cut_any (v : Value) (x : AffD) (s p : ByteArray) (w : World) (hv : AffR w v x) (hs : s.size ≤ maxLen) :
    Calls Tryd.prog 105 #[v, .string s, .string p] w fun e w' => e = .returned (.tuple #[.string (cutR x s p), .bool (cutB x s p)]) ∧ Below w.heap.size w w' := by
  obtain rfl := hv.1
  have hb0 : Below w.heap.size w (w.alloc (.cells #[.string x.name, .bool x.front, .string x.cond, .string x.strip, .string x.add] 64)) := (Below.refl _ _).alloc (Nat.le_refl _) _
  clear hv
  unfold maxLen at hs
  cases hf : x.front
  · have Hf := Lib.hid hf
    rw [hf] at hb0
    clear hf
    go_enter Tryd.func105, Tryd.ntmps105
    go_wp2_with fail
    refine (Tryd.strings_CutSuffix s p _ (by omega)).mono ?_
    rintro e w1 ⟨rfl, rfl⟩
    go_wp2
    go_ret2
    exact ⟨ret_sb (by rw [cutR, Hf.out]; rfl) (by rw [cutB, Hf.out]; rfl), hb0⟩
  · have Hf := Lib.hid hf
    rw [hf] at hb0
    clear hf
    go_enter Tryd.func105, Tryd.ntmps105
    go_wp2_with fail
    refine (Tryd.strings_CutPrefix s p _).mono ?_
    rintro e w1 ⟨rfl, rfl⟩
    go_wp2
    go_ret2
    exact ⟨ret_sb (by rw [cutR, Hf.out]; rfl) (by rw [cutB, Hf.out]; rfl), hb0⟩
theorem join_any (v : Value) (x : AffD) (r p : ByteArray) (w : World) (hv : AffR w v x) (hr : r.size ≤ 1048576) (hp : p.size ≤ 1048576) :
    Calls Tryd.prog 106 #[v, .string r, .string p] w fun e w' => e = .returned (.string (joinB x r p)) ∧ Below w.heap.size w w' := by
  obtain rfl := hv.1
  have hb0 : Below w.heap.size w (w.alloc (.cells #[.string x.name, .bool x.front, .string x.cond, .string x.strip, .string x.add] 64)) := (Below.refl _ _).alloc (Nat.le_refl _) _
  clear hv
  cases hf : x.front
  all_goals
    have Hf := Lib.hid hf
    rw [hf] at hb0
    clear hf
    go_enter Tryd.func106, Tryd.ntmps106
    go_wp2
    go_ret
    exact ⟨ret_str (by rw [joinB, Hf.out]; rfl), hb0⟩
set_option maxHeartbeats 4000000 in
set_option maxRecDepth 20000 in
theorem matches_any (v : Value) (x : AffD) (s : ByteArray) (w : World) (hv : AffR w v x) (hs : s.size ≤ maxLen) :
    Calls Tryd.prog 104 #[v, .string s] w fun e w' => e = .returned (.bool (matB x s)) ∧ Below w.heap.size w w' := by
  obtain rfl := hv.1
  have hb0 : Below w.heap.size w (w.alloc (.cells #[.string x.name, .bool x.front, .string x.cond, .string x.strip, .string x.add] 64)) := (Below.refl _ _).alloc (Nat.le_refl _) _
  have HX := Lib.hid (hv.box 64)
  have hl2 := hv.2.c
  have hl3 := hv.2.s
  have Hs := Lib.hid hs
  unfold maxLen at hl2 hl3 hs
  clear hv
  by_cases hc : x.cond.size ≤ s.size
  · have HC := Lib.hid hc
    have HEs := Lib.hid (endB_size (x := x) hc)
    obtain ⟨E, hE⟩ : ∃ E, E = endB x s x.cond.size := ⟨_, rfl⟩
    have HE := Lib.hid hE
    rw [← hE] at HEs
    clear hE
    have Hd := Lib.hid (show (((s.size : Int)) - (x.cond.size : Int)).toNat = s.size - x.cond.size by omega)
    have hdI : (0 : Int) ≤ (s.size : Int) - (x.cond.size : Int) := by omega
    have HB0 := Lib.hid hb0
    clear hb0
    cases hf : x.front
    all_goals
      have Hf := Lib.hid hf
      rw [hf] at HB0 HX
      go_enter Tryd.func104, Tryd.ntmps104
      go_wp2
      first
        | rw [show s.extract 0 x.cond.size = E by rw [HE.out, endB, Hf.out]; rfl]
        | rw [show s.extract (((s.size : Int)) - (x.cond.size : Int)).toNat s.size = E by rw [Hd.out, HE.out, endB, Hf.out]; rfl]
        | rw [show s.extract (s.size - x.cond.size) s.size = E by rw [HE.out, endB, Hf.out]; rfl]
      go_loopw [6] (fun i wr => ∃ k : Nat, k ≤ x.cond.size ∧ i = .int .i64 (k : Int) ∧ Hid (wildTo x.cond E k) ∧ Hid (AffBox wr w.heap.size x) ∧ Below w.heap.size w wr) (fun i _ => x.cond.size - (intOf i).toNat)
      case atStart => exact ⟨0, by omega, rfl, Lib.hid fun i h => by omega, HX, HB0.out⟩
      case round =>
        obtain ⟨k, hk, rfl, Hl, HXr, hbr⟩ := hrel
        have HB := Lib.hid hbr
        have k0 := HXr.out.c0
        have k1 := HXr.out.c1
        rw [hf] at k1
        have k2 := HXr.out.c2
        have k3 := HXr.out.c3
        have k4 := HXr.out.c4
        clear hbr
        by_cases hlt : k < x.cond.size
        · have hkE : k < E.size := by have := HEs.out; omega
          have hkI : (k : Int) < (x.cond.size : Int) := by omega
          have hkI2 : (k : Int) < (E.size : Int) := by omega
          cases hd : ((x.cond[k].toNat : Int) == 46)
          · have Hd := Lib.hid (not46 hd)
            have hb1 : ((x.cond[k].toNat : Int) != 46) = true := by rw [bne, hd]; rfl
            cases he : ((x.cond[k].toNat : Int) == (E[k].toNat : Int))
            · have He := Lib.hid (u8_ne he)
              have hb2 : ((x.cond[k].toNat : Int) != (E[k].toNat : Int)) = true := by rw [bne, he]; rfl
              go_wp2
              go_quiet (fail)
              go_wp2
              go_ret
              exact ⟨ret_bool (matB_at HE.out hlt hkE Hd.out He.out), below_drewN HB.out nq⟩
            · have He := Lib.hid (u8_eq he)
              have hb2 : ((x.cond[k].toNat : Int) != (E[k].toNat : Int)) = false := by rw [bne, he]; rfl
              go_wp2
              go_quiet (fail)
              go_wp2
              go_roundw
              case rel => exact ⟨k + 1, by omega, by go_num, Lib.hid (Hl.out.step hlt hkE (.inr He.out)), Lib.hid (HXr.out.drewN nq), below_drewN HB.out nq⟩
              case measure => simp [intOf]; omega
          · have Hd := Lib.hid (is46 hd)
            have hb1 : ((x.cond[k].toNat : Int) != 46) = false := by rw [bne, hd]; rfl
            go_wp2
            go_quiet (fail)
            go_wp2
            go_roundw
            case rel => exact ⟨k + 1, by omega, by go_num, Lib.hid (Hl.out.step hlt hkE (.inl Hd.out)), Lib.hid (HXr.out.drewN nq), below_drewN HB.out nq⟩
            case measure => simp [intOf]; omega
        · have hd0 : decide (k < E.size) = false := by rw [decide_eq_false_iff_not]; have := HEs.out; omega
          have HW := Lib.hid (show wildTo x.cond (endB x s x.cond.size) x.cond.size by rw [← HE.out]; obtain rfl : k = x.cond.size := (by omega); exact Hl.out)
          go_wp2_with fail
          refine (cut_any _ x s x.strip _ (by have h := HXr.out.read; rw [hf] at h; exact h) Hs.out).mono ?_
          cases hb : cutB x s x.strip
          all_goals
            have Hb := Lib.hid hb
            rintro e w1 ⟨rfl, hb1⟩
            go_wp2
            go_ret
            exact ⟨ret_bool (matB_cut HC.out HW.out Hb.out), HB.out.trans (hb1.mono HB.out.size)⟩
  · have HC := Lib.hid hc
    go_enter Tryd.func104, Tryd.ntmps104
    go_wp2
    go_ret
    exact ⟨ret_bool (matB_short HC.out), hb0⟩
end Go.Proofs.YtgefgdkejenhnaaDoor
