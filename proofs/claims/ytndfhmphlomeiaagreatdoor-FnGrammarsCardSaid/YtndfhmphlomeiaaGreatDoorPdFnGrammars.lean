/- FnGrammars returns true for all bytes: drawn grammars are read back from their texts, and the program and the reference answer alike on texts, pairs of grammars and derivations; and its tied card. No condition but what the row lists. -/
import Derived.Test.YtndfhmphlomeiaaGreatDoorCards
import Derived.Test.YtndfhmphlomeiaaGreatDoorTie
import Derived.Test.YtndfhmphlomeiaaGreatDoorK0
import Derived.Test.YtndfhmphlomeiaaGreatDoorK4
import Derived.Test.YtndfhmphlomeiaaGreatDoorQw
import Derived.Test.YtndfhmphlomeiaaGreatDoorQs
import Derived.Test.YtndfhmphlomeiaaGreatDoorK10
import Derived.Test.YtndfhmphlomeiaaGreatDoorRgI
set_option linter.unusedSimpArgs false
namespace Go.Proofs.YtndfhmphlomeiaaGreatDoor
open Go.RowKit
section
attribute [local irreducible] Calls
theorem same_self (a b : Value) (x : GraD) (w : World) (ha : GraR w a x) (hb : GraR w b x) : Calls Tryz.prog 15 #[a, b] w fun e w' => e = .returned (.bool true) ∧ Below w.heap.size w w' := by
  have h := specSameGrammar_any a x b x w ha hb
  rw [decide_eq_true rfl] at h
  exact h
theorem textR {v : Value} {x : GraD} {t : ByteArray} (ht : gtV x = t) (w : World) (hv : GraR w v x) (hM : MaxL w) : Calls Tryz.prog 14 #[v] w fun e w' => e = .returned (.string t) ∧ Below w.heap.size w w' := ht ▸ specGrammarText_any v x w hv hM
theorem rg_back {x : GraD} {t : ByteArray} (ht : gtV x = t) (hg : graB x = true) : rgG t = x ∧ rgB t = true := by
  refine rg_some (readV_is hg ?_)
  rw [← ht, gtV_yes hg]
  rfl
set_option maxHeartbeats 16000000 in
set_option maxRecDepth 100000 in
theorem fnGrammars_walk (w : World) (v0 : Value) (x0 : List UInt8) (hv0 : BytesR w v0 x0) (hML : MaxL w) :
    Calls Tryz.prog 3 #[v0] w fun e w' => e = .returned (.bool true) ∧ Below w.heap.size w w' := by
  have HV := Lib.hid hv0
  have HML := Lib.hid hML
  obtain ⟨pa, pc, rfl, hcl, hcm⟩ := hv0.shape
  clear hv0 hML
  by_cases hlong : 4096 < x0.length
  · go_enter Tryz.func3, Tryz.ntmps3
    go_wp2_with fail
    refine (f6bigQ_any _ _ _ _ (by omega)).mono ?_
    rw [decide_eq_true hlong]
    rintro e wz ⟨rfl, hwz⟩
    subst hwz
    go_wp2
    go_ret
    exact ⟨rfl, Below.refl _ _⟩
  · go_enter Tryz.func3, Tryz.ntmps3
    go_wp2_with fail
    refine (f6bigQ_any _ _ _ _ (by omega)).mono ?_
    rw [decide_eq_false hlong]
    rintro e wz ⟨rfl, hwz⟩
    rw [hwz]
    clear hwz
    have hlen : x0.length ≤ 5000 := by omega
    clear hlong
    have HB : Hid (Below w.heap.size w w) := Lib.hid (Below.refl _ _)
    go_wp2_with fail
    refine (drawText_any _ x0 _ HV.out hlen).mono ?_
    rintro e w1 ⟨v1, v2, rfl, ⟨x, hx, hn⟩, hb⟩
    have hR := hx.read
    obtain ⟨ag, cg, bg, dg, e1, e2⟩ := hR.parts
    subst e1 e2
    have HB := Lib.hid (HB.out.trans (hb.mono HB.out.size))
    have HV := Lib.hid (HV.out.below hb)
    have hba := one_belowQ w1 (.cells #[.slice ag x.affixes.length cg, .slice bg x.stems.length dg] 27)
    have HB := Lib.hid (HB.out.trans (hba.mono HB.out.size))
    have HV := Lib.hid (HV.out.below hba)
    have R3 := Lib.hid (BR.new hR)
    obtain ⟨n3, hn3⟩ : ∃ n, n = w1.heap.size := ⟨_, rfl⟩
    rw [← hn3] at R3
    clear hx hn hR hb hba
    obtain ⟨t, ht⟩ : ∃ t, gtV x = t := ⟨_, rfl⟩
    have htl : t.size ≤ 1048576 := by rw [← ht]; have := gtV_le x; omega
    have HT := Lib.hid ht
    clear ht
    obtain ⟨p0, q0⟩ := R3.out.box.c0
    obtain ⟨p1, q1⟩ := R3.out.box.c1
    go_upto_region 4 with fail
    rw [← hn3]
    clear hn3
    generalize w1.alloc (.cells #[.slice ag x.affixes.length cg, .slice bg x.stems.length dg] 27) = w2 at HB HV R3 p0 q0 p1 q1 ⊢
    go_wp2_with fail
    refine (implGrammarText_any _ x _ R3.out.rd (HML.out.below HB.out)).mono ?_
    rw [HT.out]
    rintro e w3 ⟨rfl, hb⟩
    clear p0 q0 p1 q1
    have HB := Lib.hid (HB.out.trans (hb.mono HB.out.size))
    have HV := Lib.hid (HV.out.below hb)
    have R3 := Lib.hid (R3.out.below hb)
    clear hb
    obtain ⟨ok, hok⟩ : ∃ b, rgB t = b := ⟨_, rfl⟩
    obtain ⟨xr, hxr⟩ : ∃ y, rgG t = y := ⟨_, rfl⟩
    have HOK := Lib.hid hok
    have HXR := Lib.hid hxr
    clear hok hxr
    go_wp2_with fail
    refine (implReadGrammar_any t _ htl (HML.out.below HB.out)).mono ?_
    rw [HOK.out, HXR.out]
    rintro e w4 ⟨v5, rfl, hx5, hb⟩
    have hR := hx5.read
    obtain ⟨ar, cr, br, dr, rfl⟩ := hR.shape
    have HB := Lib.hid (HB.out.trans (hb.mono HB.out.size))
    have HV := Lib.hid (HV.out.below hb)
    have R3 := Lib.hid (R3.out.below hb)
    have hba := one_belowQ w4 (.cells #[.slice ar xr.affixes.length cr, .slice br xr.stems.length dr] 27)
    have HB := Lib.hid (HB.out.trans (hba.mono HB.out.size))
    have HV := Lib.hid (HV.out.below hba)
    have R3 := Lib.hid (R3.out.below hba)
    have R5 := Lib.hid (BR.new hR)
    obtain ⟨n5, hn5⟩ : ∃ n, n = w4.heap.size := ⟨_, rfl⟩
    rw [← hn5] at R5
    clear hx5 hR hb hba
    go_upto_region 6 with fail
    rw [← hn5]
    clear hn5
    generalize w4.alloc (.cells #[.slice ar xr.affixes.length cr, .slice br xr.stems.length dr] 27) = w5 at HB HV R3 R5 ⊢
    go_wp2_with fail
    refine (drawRead_any _ x0 _ HV.out hlen).mono ?_
    rintro e w6 ⟨u, rfl, hul, hb⟩
    have HB := Lib.hid (HB.out.trans (hb.mono HB.out.size))
    have HV := Lib.hid (HV.out.below hb)
    have R3 := Lib.hid (R3.out.below hb)
    have R5 := Lib.hid (R5.out.below hb)
    clear hb
    obtain ⟨one, hone⟩ : ∃ b, rgB u = b := ⟨_, rfl⟩
    obtain ⟨xu, hxu⟩ : ∃ y, rgG u = y := ⟨_, rfl⟩
    have HO := Lib.hid hone
    have HXU := Lib.hid hxu
    clear hone hxu
    go_wp2_with fail
    refine (implReadGrammar_any u _ hul (HML.out.below HB.out)).mono ?_
    rw [HO.out, HXU.out]
    rintro e w7 ⟨v5, rfl, hx5, hb⟩
    have hR := hx5.read
    obtain ⟨au8, cu8, bu8, du8, rfl⟩ := hR.shape
    have HB := Lib.hid (HB.out.trans (hb.mono HB.out.size))
    have HV := Lib.hid (HV.out.below hb)
    have R3 := Lib.hid (R3.out.below hb)
    have R5 := Lib.hid (R5.out.below hb)
    have hba := one_belowQ w7 (.cells #[.slice au8 xu.affixes.length cu8, .slice bu8 xu.stems.length du8] 27)
    have HB := Lib.hid (HB.out.trans (hba.mono HB.out.size))
    have HV := Lib.hid (HV.out.below hba)
    have R3 := Lib.hid (R3.out.below hba)
    have R5 := Lib.hid (R5.out.below hba)
    have R8 := Lib.hid (BR.new hR)
    obtain ⟨n8, hn5⟩ : ∃ n, n = w7.heap.size := ⟨_, rfl⟩
    rw [← hn5] at R8
    clear hx5 hR hb hba
    go_upto_region 8 with fail
    rw [← hn5]
    clear hn5
    generalize w7.alloc (.cells #[.slice au8 xu.affixes.length cu8, .slice bu8 xu.stems.length du8] 27) = w8 at HB HV R3 R5 R8 ⊢
    go_wp2_with fail
    refine (specReadGrammar_any u _ hul (HML.out.below HB.out)).mono ?_
    rw [HO.out, HXU.out]
    rintro e w9 ⟨v5, rfl, hx5, hb⟩
    have hR := hx5.read
    obtain ⟨au10, cu10, bu10, du10, rfl⟩ := hR.shape
    have HB := Lib.hid (HB.out.trans (hb.mono HB.out.size))
    have HV := Lib.hid (HV.out.below hb)
    have R3 := Lib.hid (R3.out.below hb)
    have R5 := Lib.hid (R5.out.below hb)
    have R8 := Lib.hid (R8.out.below hb)
    have hba := one_belowQ w9 (.cells #[.slice au10 xu.affixes.length cu10, .slice bu10 xu.stems.length du10] 27)
    have HB := Lib.hid (HB.out.trans (hba.mono HB.out.size))
    have HV := Lib.hid (HV.out.below hba)
    have R3 := Lib.hid (R3.out.below hba)
    have R5 := Lib.hid (R5.out.below hba)
    have R8 := Lib.hid (R8.out.below hba)
    have R10 := Lib.hid (BR.new hR)
    obtain ⟨n10, hn5⟩ : ∃ n, n = w9.heap.size := ⟨_, rfl⟩
    rw [← hn5] at R10
    clear hx5 hR hb hba
    go_upto_region 9 with fail
    rw [← hn5]
    clear hn5
    generalize w9.alloc (.cells #[.slice au10 xu.affixes.length cu10, .slice bu10 xu.stems.length du10] 27) = w10 at HB HV R3 R5 R8 R10 ⊢
    go_wp2_with fail
    refine (drawSame_any _ x0 _ HV.out hlen).mono ?_
    rintro e w11 ⟨v1, v2, u1, u2, rfl, ⟨xa, xb, hR, hR2⟩, hb⟩
    obtain ⟨aa, ca, ba, da, e1, e2⟩ := hR.parts
    subst e1 e2
    obtain ⟨ab, cb, bb, db, e1, e2⟩ := hR2.parts
    subst e1 e2
    have HB := Lib.hid (HB.out.trans (hb.mono HB.out.size))
    have HV := Lib.hid (HV.out.below hb)
    have R3 := Lib.hid (R3.out.below hb)
    have R5 := Lib.hid (R5.out.below hb)
    have R8 := Lib.hid (R8.out.below hb)
    have R10 := Lib.hid (R10.out.below hb)
    have hba := two_belowQ w11 (.cells #[.slice aa xa.affixes.length ca, .slice ba xa.stems.length da] 27) (.cells #[.slice ab xb.affixes.length cb, .slice bb xb.stems.length db] 27)
    have HB := Lib.hid (HB.out.trans (hba.mono HB.out.size))
    have HV := Lib.hid (HV.out.below hba)
    have R3 := Lib.hid (R3.out.below hba)
    have R5 := Lib.hid (R5.out.below hba)
    have R8 := Lib.hid (R8.out.below hba)
    have R10 := Lib.hid (R10.out.below hba)
    have R12 := Lib.hid (BR.new1 hR (.cells #[.slice ab xb.affixes.length cb, .slice bb xb.stems.length db] 27))
    have R13 := Lib.hid (BR.new2 (.cells #[.slice aa xa.affixes.length ca, .slice ba xa.stems.length da] 27) hR2)
    obtain ⟨n12, hn5⟩ : ∃ n, n = w11.heap.size := ⟨_, rfl⟩
    rw [← hn5] at R12 R13
    clear hR hR2 hb hba
    go_upto_region 10 with fail
    rw [← hn5]
    clear hn5
    generalize (w11.alloc (.cells #[.slice aa xa.affixes.length ca, .slice ba xa.stems.length da] 27)).alloc (.cells #[.slice ab xb.affixes.length cb, .slice bb xb.stems.length db] 27) = w12 at HB HV R3 R5 R8 R10 R12 R13 ⊢
    go_wp2_with fail
    refine (drawWord_any _ x0 _ HV.out hlen).mono ?_
    rintro e w13 ⟨v1, v2, sd, u1, rfl, ⟨⟨xh, hxh, hnh⟩, dl, hd⟩, hb⟩
    have hR := hxh.read
    have hD := hd.read
    obtain ⟨ah, ch, bh, dh, e1, e2⟩ := hR.parts
    subst e1 e2
    obtain ⟨ad, cd, e1⟩ := hD.shape
    injection e1 with e1
    simp only [Array.mk.injEq, List.cons.injEq, and_true, true_and] at e1
    subst e1
    have HB := Lib.hid (HB.out.trans (hb.mono HB.out.size))
    have HV := Lib.hid (HV.out.below hb)
    have R3 := Lib.hid (R3.out.below hb)
    have R5 := Lib.hid (R5.out.below hb)
    have R8 := Lib.hid (R8.out.below hb)
    have R10 := Lib.hid (R10.out.below hb)
    have R12 := Lib.hid (R12.out.below hb)
    have R13 := Lib.hid (R13.out.below hb)
    have hba := two_belowQ w13 (.cells #[.slice ah xh.affixes.length ch, .slice bh xh.stems.length dh] 27) (.cells #[.string sd, .slice ad dl.length cd] 37)
    have HB := Lib.hid (HB.out.trans (hba.mono HB.out.size))
    have HV := Lib.hid (HV.out.below hba)
    have R3 := Lib.hid (R3.out.below hba)
    have R5 := Lib.hid (R5.out.below hba)
    have R8 := Lib.hid (R8.out.below hba)
    have R10 := Lib.hid (R10.out.below hba)
    have R12 := Lib.hid (R12.out.below hba)
    have R13 := Lib.hid (R13.out.below hba)
    have R14 := Lib.hid (BR.new1 hR (.cells #[.string sd, .slice ad dl.length cd] 37))
    have R15 := Lib.hid (BD.new2 (.cells #[.slice ah xh.affixes.length ch, .slice bh xh.stems.length dh] 27) hD)
    obtain ⟨n14, hn5⟩ : ∃ n, n = w13.heap.size := ⟨_, rfl⟩
    rw [← hn5] at R14 R15
    clear hR hD hxh hnh hd hb hba
    go_upto_region 11 with fail
    rw [← hn5]
    clear hn5
    generalize (w13.alloc (.cells #[.slice ah xh.affixes.length ch, .slice bh xh.stems.length dh] 27)).alloc (.cells #[.string sd, .slice ad dl.length cd] 37) = w14 at HB HV R3 R5 R8 R10 R12 R13 R14 R15 ⊢
    obtain ⟨wd, hwd⟩ : ∃ y, (woV xh ⟨sd, dl⟩).1 = y := ⟨_, rfl⟩
    obtain ⟨bad, hbad⟩ : ∃ y, (woV xh ⟨sd, dl⟩).2 = y := ⟨_, rfl⟩
    have HWD := Lib.hid hwd
    have HBAD := Lib.hid hbad
    clear hwd hbad
    obtain ⟨p0, q0⟩ := R14.out.box.c0
    obtain ⟨p1, q1⟩ := R14.out.box.c1
    obtain ⟨p2, q2⟩ := src_cell (i := 0) (v := .string sd) R15.out.box rfl
    obtain ⟨p3, q3⟩ := src_cell (i := 1) (v := .slice ad dl.length cd) R15.out.box rfl
    go_wp2_with fail
    refine (implWordOf_any _ xh _ ⟨sd, dl⟩ _ R14.out.rd R15.out.rd (HML.out.below HB.out)).mono ?_
    rw [HWD.out, HBAD.out]
    rintro e w15 ⟨rfl, hb⟩
    clear p0 q0 p1 q1 p2 q2 p3 q3
    have HB := Lib.hid (HB.out.trans (hb.mono HB.out.size))
    have HV := Lib.hid (HV.out.below hb)
    have R3 := Lib.hid (R3.out.below hb)
    have R5 := Lib.hid (R5.out.below hb)
    have R8 := Lib.hid (R8.out.below hb)
    have R10 := Lib.hid (R10.out.below hb)
    have R12 := Lib.hid (R12.out.below hb)
    have R13 := Lib.hid (R13.out.below hb)
    have R14 := Lib.hid (R14.out.below hb)
    have R15 := Lib.hid (R15.out.below hb)
    clear hb
    obtain ⟨p0, q0⟩ := R14.out.box.c0
    obtain ⟨p1, q1⟩ := R14.out.box.c1
    obtain ⟨p2, q2⟩ := src_cell (i := 0) (v := .string sd) R15.out.box rfl
    obtain ⟨p3, q3⟩ := src_cell (i := 1) (v := .slice ad dl.length cd) R15.out.box rfl
    go_wp2_with fail
    refine (specWordOf_any _ xh _ ⟨sd, dl⟩ _ R14.out.rd R15.out.rd (HML.out.below HB.out)).mono ?_
    rw [HWD.out, HBAD.out]
    rintro e w16 ⟨rfl, hb⟩
    clear p0 q0 p1 q1 p2 q2 p3 q3
    have HB := Lib.hid (HB.out.trans (hb.mono HB.out.size))
    have HV := Lib.hid (HV.out.below hb)
    have R3 := Lib.hid (R3.out.below hb)
    have R5 := Lib.hid (R5.out.below hb)
    have R8 := Lib.hid (R8.out.below hb)
    have R10 := Lib.hid (R10.out.below hb)
    have R12 := Lib.hid (R12.out.below hb)
    have R13 := Lib.hid (R13.out.below hb)
    have R14 := Lib.hid (R14.out.below hb)
    have R15 := Lib.hid (R15.out.below hb)
    clear hb
    obtain ⟨sb, hsb⟩ : ∃ b, decide (xa = xb) = b := ⟨_, rfl⟩
    have HSB := Lib.hid hsb
    clear hsb
    go_upto_region 13 with fail
    refine wp_region_held_drew (S := (fun w' => w'.cell? ⟨n3, 0, none⟩ = some (.slice ag x.affixes.length cg) ∧ w'.cell? ⟨n3, 1, none⟩ = some (.slice bg x.stems.length dg) ∧ w'.cell? ⟨n8, 0, none⟩ = some (.slice au8 xu.affixes.length cu8) ∧ w'.cell? ⟨n8, 1, none⟩ = some (.slice bu8 xu.stems.length du8) ∧ w'.cell? ⟨n10, 0, none⟩ = some (.slice au10 xu.affixes.length cu10) ∧ w'.cell? ⟨n10, 1, none⟩ = some (.slice bu10 xu.stems.length du10) ∧ w'.cell? ⟨n12, 0, none⟩ = some (.slice aa xa.affixes.length ca) ∧ w'.cell? ⟨n12, 1, none⟩ = some (.slice ba xa.stems.length da) ∧ w'.cell? ⟨n12 + 1, 0, none⟩ = some (.slice ab xb.affixes.length cb) ∧ w'.cell? ⟨n12 + 1, 1, none⟩ = some (.slice bb xb.stems.length db))) (by kernel_rfl) ?_ (fun hHeld => ?_)
    · exact ⟨R3.out.box.c0.1, R3.out.box.c1.1, R8.out.box.c0.1, R8.out.box.c1.1, R10.out.box.c0.1, R10.out.box.c1.1, R12.out.box.c0.1, R12.out.box.c1.1, R13.out.box.c0.1, R13.out.box.c1.1⟩
    have HC : Hid (Below w16.heap.size w16 w16.drew) := Lib.hid (Below.refl w16.heap.size w16).drew
    refine wpAnyH_take (i := 0) (v := ?v1) rfl (by kernel_rfl) (by kernel_rfl) (by kernel_rfl) (fun _ _ _ h => h) (Or.inl ⟨by kernel_rfl, ?hy1⟩) (by assumption) ?_
    case hy1 => (intro w9 hS9; (try dsimp only at hS9); go_simp; (try with_reducible rfl))
    try simp only [Act.put, List.getElem_toArray, List.getElem_cons_succ, List.getElem_cons_zero, List.setIfInBounds_toArray, List.set_cons_zero, List.set_cons_succ]
    refine wpAnyH_take (i := 1) (v := ?v2) rfl (by kernel_rfl) (by kernel_rfl) (by kernel_rfl) (fun _ _ _ h => h) (Or.inl ⟨by kernel_rfl, ?hy2⟩) (by assumption) ?_
    case hy2 => (intro w9 hS9; (try dsimp only at hS9); go_simp; (try with_reducible rfl))
    try simp only [Act.put, List.getElem_toArray, List.getElem_cons_succ, List.getElem_cons_zero, List.setIfInBounds_toArray, List.set_cons_zero, List.set_cons_succ]
    refine wpAnyH_ready (rs := [2]) (by kernel_rfl) (by simp) ?_
    refine AllReadyH.cons rfl (fun K9 hK9 => ?_) AllReadyH.nil
    rw [if_pos (by rfl)]
    go_wp2_with (go_at_call 14; refine (textR HT.out _ (R3.out.below HC.out).rd (HML.out.below (HB.out.trans (HC.out.mono HB.out.size)))).mono ?_; rintro e wk1 ⟨rfl, hbk⟩)
    have HC := Lib.hid (HC.out.trans (hbk.mono HC.out.size))
    clear hbk
    refine hK9.out _ _ (⟨(R3.out.below HC.out).box.c0.1, (R3.out.below HC.out).box.c1.1, (R8.out.below HC.out).box.c0.1, (R8.out.below HC.out).box.c1.1, (R10.out.below HC.out).box.c0.1, (R10.out.below HC.out).box.c1.1, (R12.out.below HC.out).box.c0.1, (R12.out.below HC.out).box.c1.1, (R13.out.below HC.out).box.c0.1, (R13.out.below HC.out).box.c1.1⟩) (fun hHeld2 => ?_)
    clear hK9 K9
    try simp only [Act.put, List.getElem_toArray, List.getElem_cons_succ, List.getElem_cons_zero, List.setIfInBounds_toArray, List.set_cons_zero, List.set_cons_succ]
    refine wpAnyH_take (i := 3) (v := ?v3) rfl (by kernel_rfl) (by kernel_rfl) (by kernel_rfl) (fun _ _ _ h => h) (Or.inl ⟨by kernel_rfl, ?hy3⟩) (by assumption) ?_
    case hy3 => (intro w9 hS9; (try dsimp only at hS9); go_simp; (try with_reducible rfl))
    try simp only [Act.put, List.getElem_toArray, List.getElem_cons_succ, List.getElem_cons_zero, List.setIfInBounds_toArray, List.set_cons_zero, List.set_cons_succ]
    refine wpAnyH_take (i := 4) (v := ?v4) rfl (by kernel_rfl) (by kernel_rfl) (by kernel_rfl) (fun _ _ _ h => h) (Or.inl ⟨by kernel_rfl, ?hy4⟩) (by assumption) ?_
    case hy4 => (intro w9 hS9; (try dsimp only at hS9); go_simp; (try with_reducible rfl))
    try simp only [Act.put, List.getElem_toArray, List.getElem_cons_succ, List.getElem_cons_zero, List.setIfInBounds_toArray, List.set_cons_zero, List.set_cons_succ]
    refine wpAnyH_take (i := 5) (v := ?v5) rfl (by kernel_rfl) (by kernel_rfl) (by kernel_rfl) (fun _ _ _ h => h) (Or.inl ⟨by kernel_rfl, ?hy5⟩) (by assumption) ?_
    case hy5 => (intro w9 hS9; (try dsimp only at hS9); go_simp; (try with_reducible rfl))
    try simp only [Act.put, List.getElem_toArray, List.getElem_cons_succ, List.getElem_cons_zero, List.setIfInBounds_toArray, List.set_cons_zero, List.set_cons_succ]
    refine wpAnyH_take (i := 6) (v := ?v6) rfl (by kernel_rfl) (by kernel_rfl) (by kernel_rfl) (fun _ _ _ h => h) (Or.inl ⟨by kernel_rfl, ?hy6⟩) (by assumption) ?_
    case hy6 => (intro w9 hS9; (try dsimp only at hS9); go_simp; (try with_reducible rfl))
    try simp only [Act.put, List.getElem_toArray, List.getElem_cons_succ, List.getElem_cons_zero, List.setIfInBounds_toArray, List.set_cons_zero, List.set_cons_succ]
    refine wpAnyH_take (i := 7) (v := ?v7) rfl (by kernel_rfl) (by kernel_rfl) (by kernel_rfl) (fun _ _ _ h => h) (Or.inl ⟨by kernel_rfl, ?hy7⟩) (by assumption) ?_
    case hy7 => (intro w9 hS9; (try dsimp only at hS9); go_simp; (try with_reducible rfl))
    try simp only [Act.put, List.getElem_toArray, List.getElem_cons_succ, List.getElem_cons_zero, List.setIfInBounds_toArray, List.set_cons_zero, List.set_cons_succ]
    refine wpAnyH_take (i := 8) (v := ?v8) rfl (by kernel_rfl) (by kernel_rfl) (by kernel_rfl) (fun _ _ _ h => h) (Or.inl ⟨by kernel_rfl, ?hy8⟩) (by assumption) ?_
    case hy8 => (intro w9 hS9; (try dsimp only at hS9); go_simp; (try with_reducible rfl))
    try simp only [Act.put, List.getElem_toArray, List.getElem_cons_succ, List.getElem_cons_zero, List.setIfInBounds_toArray, List.set_cons_zero, List.set_cons_succ]
    refine wpAnyH_take (i := 9) (v := ?v9) rfl (by kernel_rfl) (by kernel_rfl) (by kernel_rfl) (fun _ _ _ h => h) (Or.inl ⟨by kernel_rfl, ?hy9⟩) (by assumption) ?_
    case hy9 => (intro w9 hS9; (try dsimp only at hS9); go_simp; (try with_reducible rfl))
    try simp only [Act.put, List.getElem_toArray, List.getElem_cons_succ, List.getElem_cons_zero, List.setIfInBounds_toArray, List.set_cons_zero, List.set_cons_succ]
    refine wpAnyH_take (i := 10) (v := ?v10) rfl (by kernel_rfl) (by kernel_rfl) (by kernel_rfl) (fun _ _ _ h => h) (Or.inl ⟨by kernel_rfl, ?hy10⟩) (by assumption) ?_
    case hy10 => (intro w9 hS9; (try dsimp only at hS9); go_simp; (try with_reducible rfl))
    try simp only [Act.put, List.getElem_toArray, List.getElem_cons_succ, List.getElem_cons_zero, List.setIfInBounds_toArray, List.set_cons_zero, List.set_cons_succ]
    refine wpAnyH_take (i := 11) (v := ?v11) rfl (by kernel_rfl) (by kernel_rfl) (by kernel_rfl) (fun _ _ _ h => h) (Or.inl ⟨by kernel_rfl, ?hy11⟩) (by assumption) ?_
    case hy11 => (intro w9 hS9; (try dsimp only at hS9); go_simp; (try with_reducible rfl))
    try simp only [Act.put, List.getElem_toArray, List.getElem_cons_succ, List.getElem_cons_zero, List.setIfInBounds_toArray, List.set_cons_zero, List.set_cons_succ]
    refine wpAnyH_ready (rs := [12]) (by kernel_rfl) (by simp) ?_
    refine AllReadyH.cons rfl (fun K9 hK9 => ?_) AllReadyH.nil
    rw [if_pos (by rfl)]
    go_wp2_with (go_at_call 15; refine (same_self _ _ xu _ (R8.out.below HC.out).rd (R10.out.below HC.out).rd).mono ?_; rintro e wk2 ⟨rfl, hbk⟩)
    have HC := Lib.hid (HC.out.trans (hbk.mono HC.out.size))
    clear hbk
    refine hK9.out _ _ (⟨(R3.out.below HC.out).box.c0.1, (R3.out.below HC.out).box.c1.1, (R8.out.below HC.out).box.c0.1, (R8.out.below HC.out).box.c1.1, (R10.out.below HC.out).box.c0.1, (R10.out.below HC.out).box.c1.1, (R12.out.below HC.out).box.c0.1, (R12.out.below HC.out).box.c1.1, (R13.out.below HC.out).box.c0.1, (R13.out.below HC.out).box.c1.1⟩) (fun hHeld3 => ?_)
    clear hK9 K9
    try simp only [Act.put, List.getElem_toArray, List.getElem_cons_succ, List.getElem_cons_zero, List.setIfInBounds_toArray, List.set_cons_zero, List.set_cons_succ]
    refine wpAnyH_take (i := 13) (v := ?v12) rfl (by kernel_rfl) (by kernel_rfl) (by kernel_rfl) (fun _ _ _ h => h) (Or.inl ⟨by kernel_rfl, ?hy12⟩) (by assumption) ?_
    case hy12 => (intro w9 hS9; (try dsimp only at hS9); go_simp; (try with_reducible rfl))
    try simp only [Act.put, List.getElem_toArray, List.getElem_cons_succ, List.getElem_cons_zero, List.setIfInBounds_toArray, List.set_cons_zero, List.set_cons_succ]
    refine wpAnyH_take (i := 14) (v := ?v13) rfl (by kernel_rfl) (by kernel_rfl) (by kernel_rfl) (fun _ _ _ h => h) (Or.inl ⟨by kernel_rfl, ?hy13⟩) (by assumption) ?_
    case hy13 => (intro w9 hS9; (try dsimp only at hS9); go_simp; (try with_reducible rfl))
    try simp only [Act.put, List.getElem_toArray, List.getElem_cons_succ, List.getElem_cons_zero, List.setIfInBounds_toArray, List.set_cons_zero, List.set_cons_succ]
    refine wpAnyH_take (i := 15) (v := ?v14) rfl (by kernel_rfl) (by kernel_rfl) (by kernel_rfl) (fun _ _ _ h => h) (Or.inl ⟨by kernel_rfl, ?hy14⟩) (by assumption) ?_
    case hy14 => (intro w9 hS9; (try dsimp only at hS9); go_simp; (try with_reducible rfl))
    try simp only [Act.put, List.getElem_toArray, List.getElem_cons_succ, List.getElem_cons_zero, List.setIfInBounds_toArray, List.set_cons_zero, List.set_cons_succ]
    refine wpAnyH_take (i := 16) (v := ?v15) rfl (by kernel_rfl) (by kernel_rfl) (by kernel_rfl) (fun _ _ _ h => h) (Or.inl ⟨by kernel_rfl, ?hy15⟩) (by assumption) ?_
    case hy15 => (intro w9 hS9; (try dsimp only at hS9); go_simp; (try with_reducible rfl))
    try simp only [Act.put, List.getElem_toArray, List.getElem_cons_succ, List.getElem_cons_zero, List.setIfInBounds_toArray, List.set_cons_zero, List.set_cons_succ]
    refine wpAnyH_take (i := 17) (v := ?v16) rfl (by kernel_rfl) (by kernel_rfl) (by kernel_rfl) (fun _ _ _ h => h) (Or.inl ⟨by kernel_rfl, ?hy16⟩) (by assumption) ?_
    case hy16 => (intro w9 hS9; (try dsimp only at hS9); go_simp; (try with_reducible rfl))
    try simp only [Act.put, List.getElem_toArray, List.getElem_cons_succ, List.getElem_cons_zero, List.setIfInBounds_toArray, List.set_cons_zero, List.set_cons_succ]
    refine wpAnyH_take (i := 19) (v := ?v17) rfl (by kernel_rfl) (by kernel_rfl) (by kernel_rfl) (fun _ _ _ h => h) (Or.inl ⟨by kernel_rfl, ?hy17⟩) (by assumption) ?_
    case hy17 => (intro w9 hS9; (try dsimp only at hS9); go_simp; (try with_reducible rfl))
    try simp only [Act.put, List.getElem_toArray, List.getElem_cons_succ, List.getElem_cons_zero, List.setIfInBounds_toArray, List.set_cons_zero, List.set_cons_succ]
    refine wpAnyH_take (i := 20) (v := ?v18) rfl (by kernel_rfl) (by kernel_rfl) (by kernel_rfl) (fun _ _ _ h => h) (Or.inl ⟨by kernel_rfl, ?hy18⟩) (by assumption) ?_
    case hy18 => (intro w9 hS9; (try dsimp only at hS9); go_simp; (try with_reducible rfl))
    try simp only [Act.put, List.getElem_toArray, List.getElem_cons_succ, List.getElem_cons_zero, List.setIfInBounds_toArray, List.set_cons_zero, List.set_cons_succ]
    refine wpAnyH_ready (rs := [18]) (by kernel_rfl) (by simp) ?_
    refine AllReadyH.cons rfl (fun K9 hK9 => ?_) AllReadyH.nil
    rw [if_pos (by rfl)]
    go_wp2_with (go_at_call 16; refine (implSameGrammar_any _ xa _ xb _ (R12.out.below HC.out).rd (R13.out.below HC.out).rd).mono ?_; rw [HSB.out]; rintro e wk3 ⟨rfl, hbk⟩)
    have HC := Lib.hid (HC.out.trans (hbk.mono HC.out.size))
    clear hbk
    refine hK9.out _ _ (⟨(R3.out.below HC.out).box.c0.1, (R3.out.below HC.out).box.c1.1, (R8.out.below HC.out).box.c0.1, (R8.out.below HC.out).box.c1.1, (R10.out.below HC.out).box.c0.1, (R10.out.below HC.out).box.c1.1, (R12.out.below HC.out).box.c0.1, (R12.out.below HC.out).box.c1.1, (R13.out.below HC.out).box.c0.1, (R13.out.below HC.out).box.c1.1⟩) (fun hHeld4 => ?_)
    clear hK9 K9
    try simp only [Act.put, List.getElem_toArray, List.getElem_cons_succ, List.getElem_cons_zero, List.setIfInBounds_toArray, List.set_cons_zero, List.set_cons_succ]
    refine wpAnyH_ready (rs := [21]) (by kernel_rfl) (by simp) ?_
    refine AllReadyH.cons rfl (fun K9 hK9 => ?_) AllReadyH.nil
    rw [if_pos (by rfl)]
    go_wp2_with (go_at_call 15; refine (specSameGrammar_any _ xa _ xb _ (R12.out.below HC.out).rd (R13.out.below HC.out).rd).mono ?_; rw [HSB.out]; rintro e wk4 ⟨rfl, hbk⟩)
    have HC := Lib.hid (HC.out.trans (hbk.mono HC.out.size))
    clear hbk
    refine hK9.out _ _ (⟨(R3.out.below HC.out).box.c0.1, (R3.out.below HC.out).box.c1.1, (R8.out.below HC.out).box.c0.1, (R8.out.below HC.out).box.c1.1, (R10.out.below HC.out).box.c0.1, (R10.out.below HC.out).box.c1.1, (R12.out.below HC.out).box.c0.1, (R12.out.below HC.out).box.c1.1, (R13.out.below HC.out).box.c0.1, (R13.out.below HC.out).box.c1.1⟩) (fun hHeld5 => ?_)
    clear hK9 K9
    try simp only [Act.put, List.getElem_toArray, List.getElem_cons_succ, List.getElem_cons_zero, List.setIfInBounds_toArray, List.set_cons_zero, List.set_cons_succ]
    refine wpAnyH_take (i := 22) (v := ?v19) rfl (by kernel_rfl) (by kernel_rfl) (by kernel_rfl) (fun _ _ _ h => h) (Or.inl ⟨by kernel_rfl, ?hy19⟩) (by assumption) ?_
    case hy19 => (intro w9 hS9; (try dsimp only at hS9); go_simp; (try with_reducible rfl))
    try simp only [Act.put, List.getElem_toArray, List.getElem_cons_succ, List.getElem_cons_zero, List.setIfInBounds_toArray, List.set_cons_zero, List.set_cons_succ]
    refine wpAnyH_take (i := 23) (v := ?v20) rfl (by kernel_rfl) (by kernel_rfl) (by kernel_rfl) (fun _ _ _ h => h) (Or.inl ⟨by kernel_rfl, ?hy20⟩) (by assumption) ?_
    case hy20 => (intro w9 hS9; (try dsimp only at hS9); go_simp; (try with_reducible rfl))
    try simp only [Act.put, List.getElem_toArray, List.getElem_cons_succ, List.getElem_cons_zero, List.setIfInBounds_toArray, List.set_cons_zero, List.set_cons_succ]
    refine wpAnyH_take (i := 24) (v := ?v21) rfl (by kernel_rfl) (by kernel_rfl) (by kernel_rfl) (fun _ _ _ h => h) (Or.inl ⟨by kernel_rfl, ?hy21⟩) (by assumption) ?_
    case hy21 => (intro w9 hS9; (try dsimp only at hS9); go_simp; (try with_reducible rfl))
    try simp only [Act.put, List.getElem_toArray, List.getElem_cons_succ, List.getElem_cons_zero, List.setIfInBounds_toArray, List.set_cons_zero, List.set_cons_succ]
    refine wpAnyH_take (i := 25) (v := ?v22) rfl (by kernel_rfl) (by kernel_rfl) (by kernel_rfl) (fun _ _ _ h => h) (Or.inl ⟨by kernel_rfl, ?hy22⟩) (by assumption) ?_
    case hy22 => (intro w9 hS9; (try dsimp only at hS9); go_simp; (try with_reducible rfl))
    try simp only [Act.put, List.getElem_toArray, List.getElem_cons_succ, List.getElem_cons_zero, List.setIfInBounds_toArray, List.set_cons_zero, List.set_cons_succ]
    refine wpAnyH_take (i := 26) (v := ?v23) rfl (by kernel_rfl) (by kernel_rfl) (by kernel_rfl) (fun _ _ _ h => h) (Or.inl ⟨by kernel_rfl, ?hy23⟩) (by assumption) ?_
    case hy23 => (intro w9 hS9; (try dsimp only at hS9); go_simp; (try with_reducible rfl))
    try simp only [Act.put, List.getElem_toArray, List.getElem_cons_succ, List.getElem_cons_zero, List.setIfInBounds_toArray, List.set_cons_zero, List.set_cons_succ]
    refine wpAnyH_take (i := 27) (v := ?v24) rfl (by kernel_rfl) (by kernel_rfl) (by kernel_rfl) (fun _ _ _ h => h) (Or.inl ⟨by kernel_rfl, ?hy24⟩) (by assumption) ?_
    case hy24 => (intro w9 hS9; (try dsimp only at hS9); go_simp; (try with_reducible rfl))
    try simp only [Act.put, List.getElem_toArray, List.getElem_cons_succ, List.getElem_cons_zero, List.setIfInBounds_toArray, List.set_cons_zero, List.set_cons_succ]
    refine wpAnyH_take (i := 28) (v := ?v25) rfl (by kernel_rfl) (by kernel_rfl) (by kernel_rfl) (fun _ _ _ h => h) (Or.inl ⟨by kernel_rfl, ?hy25⟩) (by assumption) ?_
    case hy25 => (intro w9 hS9; (try dsimp only at hS9); go_simp; (try with_reducible rfl))
    try simp only [Act.put, List.getElem_toArray, List.getElem_cons_succ, List.getElem_cons_zero, List.setIfInBounds_toArray, List.set_cons_zero, List.set_cons_succ]
    refine wpAnyH_take (i := 29) (v := ?v26) rfl (by kernel_rfl) (by kernel_rfl) (by kernel_rfl) (fun _ _ _ h => h) (Or.inl ⟨by kernel_rfl, ?hy26⟩) (by assumption) ?_
    case hy26 => (intro w9 hS9; (try dsimp only at hS9); go_simp; (try with_reducible rfl))
    try simp only [Act.put, List.getElem_toArray, List.getElem_cons_succ, List.getElem_cons_zero, List.setIfInBounds_toArray, List.set_cons_zero, List.set_cons_succ]
    refine wpAnyH_take (i := 30) (v := ?v27) rfl (by kernel_rfl) (by kernel_rfl) (by kernel_rfl) (fun _ _ _ h => h) (Or.inl ⟨by kernel_rfl, ?hy27⟩) (by assumption) ?_
    case hy27 => (intro w9 hS9; (try dsimp only at hS9); go_simp; (try with_reducible rfl))
    try simp only [Act.put, List.getElem_toArray, List.getElem_cons_succ, List.getElem_cons_zero, List.setIfInBounds_toArray, List.set_cons_zero, List.set_cons_succ]
    refine wpAnyH_take (i := 31) (v := ?v28) rfl (by kernel_rfl) (by kernel_rfl) (by kernel_rfl) (fun _ _ _ h => h) (Or.inl ⟨by kernel_rfl, ?hy28⟩) (by assumption) ?_
    case hy28 => (intro w9 hS9; (try dsimp only at hS9); go_simp; (try with_reducible rfl))
    try simp only [Act.put, List.getElem_toArray, List.getElem_cons_succ, List.getElem_cons_zero, List.setIfInBounds_toArray, List.set_cons_zero, List.set_cons_succ]
    refine wpAnyH_take (i := 32) (v := ?v29) rfl (by kernel_rfl) (by kernel_rfl) (by kernel_rfl) (fun _ _ _ h => h) (Or.inl ⟨by kernel_rfl, ?hy29⟩) (by assumption) ?_
    case hy29 => (intro w9 hS9; (try dsimp only at hS9); go_simp; (try with_reducible rfl))
    try simp only [Act.put, List.getElem_toArray, List.getElem_cons_succ, List.getElem_cons_zero, List.setIfInBounds_toArray, List.set_cons_zero, List.set_cons_succ]
    refine wpAnyH_take (i := 33) (v := ?v30) rfl (by kernel_rfl) (by kernel_rfl) (by kernel_rfl) (fun _ _ _ h => h) (Or.inl ⟨by kernel_rfl, ?hy30⟩) (by assumption) ?_
    case hy30 => (intro w9 hS9; (try dsimp only at hS9); go_simp; (try with_reducible rfl))
    try simp only [Act.put, List.getElem_toArray, List.getElem_cons_succ, List.getElem_cons_zero, List.setIfInBounds_toArray, List.set_cons_zero, List.set_cons_succ]
    refine wpAnyH_done (by kernel_rfl) ?_ _
    have HB := Lib.hid (HB.out.trans (HC.out.mono HB.out.size))
    have R3 := Lib.hid (R3.out.below HC.out)
    have R5 := Lib.hid (R5.out.below HC.out)
    cases hgv : graB x
    · obtain ⟨p0, q0⟩ := R3.out.box.c0
      obtain ⟨p1, q1⟩ := R3.out.box.c1
      go_wp2_with fail
      refine (specValidGrammar_any _ x _ R3.out.rd (HML.out.below HB.out)).mono ?_
      rw [hgv]
      rintro e w20 ⟨rfl, hb⟩
      have HB := Lib.hid (HB.out.trans (hb.mono HB.out.size))
      have R3 := Lib.hid (R3.out.below hb)
      have R5 := Lib.hid (R5.out.below hb)
      clear hb p0 q0 p1 q1
      go_wp2
      go_ret
      exact ⟨rfl, HB.out⟩
    · obtain ⟨h1, h2⟩ := rg_back HT.out hgv
      have hxr : x = xr := (HXR.out.symm.trans h1).symm
      subst hxr
      have hok : ok = true := HOK.out.symm.trans h2
      subst hok
      clear h1 h2
      obtain ⟨p0, q0⟩ := R3.out.box.c0
      obtain ⟨p1, q1⟩ := R3.out.box.c1
      go_wp2_with fail
      refine (specValidGrammar_any _ x _ R3.out.rd (HML.out.below HB.out)).mono ?_
      rw [hgv]
      rintro e w20 ⟨rfl, hb⟩
      have HB := Lib.hid (HB.out.trans (hb.mono HB.out.size))
      have R3 := Lib.hid (R3.out.below hb)
      have R5 := Lib.hid (R5.out.below hb)
      clear hb p0 q0 p1 q1
      obtain ⟨p0, q0⟩ := R3.out.box.c0
      obtain ⟨p1, q1⟩ := R3.out.box.c1
      obtain ⟨p2, q2⟩ := R5.out.box.c0
      obtain ⟨p3, q3⟩ := R5.out.box.c1
      go_wp2_with fail
      refine (same_self _ _ x _ R5.out.rd R3.out.rd).mono ?_
      rintro e w21 ⟨rfl, hb⟩
      go_wp2
      go_ret
      exact ⟨rfl, HB.out.trans (hb.mono HB.out.size)⟩
end
namespace fnGrammars
open Go.ChangeShapes Go.WideShapes Go.ChangeAt Go.RowKit
open Go.ChangeMaps (open_string shut_string)
set_option maxRecDepth 100000 in
theorem lifted (os : Os) (started : os.Started) (H : Type) (enc : TypeId × Value → H) :
      ReturnsInHanded {} Tryz.checked os 3 .any (fun w args => (Rows.fnGrammarsSpec.pre enc Tryz.prog Tryz.f3 Rows.fnGrammarsRow.domain false w args ∧ laidMetH Tryz.prog Rows.fnGrammarsRow.laid w) ∧ sizedMet enc Tryz.prog Tryz.f3 (OpenSpec.ofChange Rows.fnGrammarsSpec) false w args) (Rows.fnGrammarsSpec.post enc Tryz.prog Tryz.f3 false true false false) := by
  refine handed_and_shaped (C := Tryz.checked) (X := fun w _ => laidMetH Tryz.prog Rows.fnGrammarsRow.laid w) (fun _ _ _ hh h => h.of_heap hh) Tryz.own started (by kernel_rfl) Tryz.func3
    (ChangeSpec.witness_shaped (enc := enc) (C := Tryz.checked) (os := os) (X := fun w _ => laidMetH Tryz.prog Rows.fnGrammarsRow.laid w) false (World.laidAll Tryz.prog os Rows.fnGrammarsRow.laid) #[.slice none 0 0] 8 (World.laidAll_os _ _ _)
      (World.shaped_of_ZipB (by kernel_rfl) (by kernel_rfl)) (by kernel_rfl) (by kernel_rfl) (by kernel_rfl)
      (by rw [MakeChecks.laidMetH_plain _ _ _ (by kernel_rfl)]; exact laidMet_laidAll _ (by kernel_rfl) (by kernel_rfl))) ?_
  intro W base args ds gs before hval0 hW hsh _
  have hval : ∀ (j : Nat) t v, Tryz.f3.params[j]? = some t → args[j]? = some v → Value.okWide Tryz.prog W .any base t v := hval0
  have hW' := hW
  obtain ⟨p, q, hA0, hV, rfl, hfz, hnd⟩ := hW
  have hA : DataW.TrodAll enc Tryz.prog W 0 (fun _ => true) true Tryz.f3.params.toList args.toList ds p := hA0
  rw [Tryz.params3] at hA hval
  obtain ⟨v0, vs0, d0, ds0, p0, q0, hargs, rfl, rfl, h0, r0⟩ := trodAll_cons hA
  obtain ⟨rfl, rfl, rfl⟩ := trodAll_nil r0
  obtain rfl : args = #[v0] := by cases args; simp_all
  obtain ⟨rfl, rfl⟩ := trodVars_none hV
  obtain ⟨a0, w0⟩ := open_bytes (hval 0 22 v0 rfl rfl) h0
  refine (fnGrammars_walk v0 a0 w0 (w := W) (hML := MaxL.shaped hsh)).mono fun e W' ⟨he, hg⟩ => ?_
  subst he
  exact ⟨_, rfl, law_post Tryz.laidOut (by kernel_rfl) (by kernel_rfl) Tryz.underlying4 rfl rfl hW' hg⟩
theorem over : Rows.fnGrammarsRow.holds Tryz.pinned (OpenSpec.ofChange Rows.fnGrammarsSpec) :=
  OpenClaim.holds_of_wide 3 Tryz.f3 rfl rfl rfl rfl rfl rfl rfl ⟨rfl, rfl, rfl, rfl, rfl⟩ rfl rfl rfl rfl rfl (by kernel_rfl) Tryz.func3 (by kernel_rfl)
    (of_decide_eq_true (by kernel_rfl)) (by unfold Func.isWrapper; first | (rw [if_pos (by decide +kernel)]; kernel_rfl) | (rw [if_neg (by decide +kernel)]; exact ⟨rfl, rfl⟩))
    (fun os started H enc _ => lifted os started H enc)
theorem proved : Rows.FnGrammarsCardSaid :=
  Claim7.holds_tied_plain_at .later [] [.data, .pinned] true (true, "3ea6f52b47e29b8c08399dce0100f15162377233552e2f4dff72e594f1870b31") false over (fun _ h => by cases h) (by kernel_rfl) (fun _ h => by cases h) fnGrammars_row_tie rfl ⟨rfl, rfl⟩ (by kernel_rfl) rfl
    (fun f fn hf hfn => by
      obtain rfl : f = 3 := Option.some.inj ((show Tryz.prog.funcNamed "loop.example/g00911/laws.FnGrammars" = some 3 by kernel_rfl).symm.trans hf) |>.symm
      obtain rfl : fn = Tryz.f3 := (Option.some.inj (Tryz.func3.symm.trans hfn)).symm
      exact ⟨by kernel_rfl, fun j t ht => by
        rw [Tryz.params3] at ht
        have hm : t ∈ [22] := by simpa using Array.mem_of_getElem? ht
        have hall : ([22].all fun u => !Tryz.prog.wantsStandIn u) = true := by kernel_rfl
        exact (show Tryz.prog.wantsStandIn t = false by simpa using List.all_eq_true.1 hall t hm)⟩)
    (by kernel_rfl)
end fnGrammars
end Go.Proofs.YtndfhmphlomeiaaGreatDoor
