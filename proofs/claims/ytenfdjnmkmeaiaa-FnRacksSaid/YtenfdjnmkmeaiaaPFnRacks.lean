/- FnRacks returns true for all bytes: tiles that are added can be taken again, and common tiles are in both piles. No condition. -/
import Derived.Test.YtenfdjnmkmeaiaaF
import Derived.Test.YtenfdjnmkmeaiaaRkA
namespace Go.Proofs.Ytenfdjnmkmeaiaa
open Go.RowKit
section
attribute [local irreducible] Calls
set_option maxHeartbeats 4000000 in
set_option maxRecDepth 20000 in
theorem fnRacks_walk (w : World) (v0 : Value) (x0 : List UInt8) (hv0 : BytesR w v0 x0) :
    Calls Try.prog 10 #[v0] w fun e w' => e = .returned (.bool true) ∧ Below w.heap.size w w' := by
  have HV := Lib.hid hv0
  obtain ⟨pa, pc, rfl, hcl, hcm⟩ := hv0.shape
  clear hv0
  by_cases hlong : 3000 < x0.length
  · go_enter Try.func10, Try.ntmps10
    go_wp2_with fail
    refine (a2Long_any _ _ _ _ _ _ _ (by omega) (by decide)).mono ?_
    rw [decide_eq_true (.inl hlong)]
    rintro e w1 ⟨rfl, rfl⟩
    go_wp2
    go_ret
    exact ⟨rfl, Below.refl _ _⟩
  · go_enter Try.func10, Try.ntmps10
    go_wp2_with fail
    refine (a2Long_any _ _ _ _ _ _ _ (by omega) (by decide)).mono ?_
    rw [decide_eq_false (by omega)]
    rintro e w1 ⟨rfl, rfl⟩
    go_wp2_with fail
    refine (a2Piles_any _ x0 _ HV.out (by omega)).mono ?_
    rintro e w1 ⟨a, b, rfl, ha, hb, hal, hbl, hb1⟩
    obtain ⟨s, c, r, m, e1, e2, e3, e4, e5, e6, e7, e8, e9, e10, l1, l2, l3, l4⟩ := racks_law ha hb (by omega)
    have E10 := Lib.hid e10
    have q1 : (a.toList != a.toList) = false := by simp
    have q2 : (c.toList != c.toList) = false := by simp
    clear ha hb e10
    go_wp2_with fail
    refine (implAddTiles_any a b _ (by omega) (by omega)).mono ?_
    rw [e1]
    rintro e w2 ⟨rfl, hb2⟩
    have hb2 := hb1.trans (hb2.mono hb1.size)
    clear hb1 e1
    go_wp2_with fail
    refine (implTakeTiles_any s b _ (by omega) (by omega)).mono ?_
    rw [e2]
    rintro e w3 ⟨rfl, hb3⟩
    have hb3 := hb2.trans (hb3.mono hb2.size)
    clear hb2 e2
    go_wp2_with fail
    refine (implCommonTiles_any a b _ (by omega) (by omega)).mono ?_
    rw [e3]
    rintro e w4 ⟨rfl, hb4⟩
    have hb4 := hb3.trans (hb4.mono hb3.size)
    clear hb3 e3
    go_wp2_with fail
    refine (implCommonTiles_any b a _ (by omega) (by omega)).mono ?_
    rw [e4]
    rintro e w5 ⟨rfl, hb5⟩
    have hb5 := hb4.trans (hb5.mono hb4.size)
    clear hb4 e4
    go_wp2_with fail
    refine (implContainsTiles_any a c _ (by omega) (by omega)).mono ?_
    rw [e5]
    rintro e w6 ⟨rfl, hb6⟩
    have hb6 := hb5.trans (hb6.mono hb5.size)
    clear hb5 e5
    go_wp2_with fail
    refine (implContainsTiles_any b c _ (by omega) (by omega)).mono ?_
    rw [e6]
    rintro e w7 ⟨rfl, hb7⟩
    have hb7 := hb6.trans (hb7.mono hb6.size)
    clear hb6 e6
    go_wp2_with fail
    refine (implTakeTiles_any a c _ (by omega) (by omega)).mono ?_
    rw [e7]
    rintro e w8 ⟨rfl, hb8⟩
    have hb8 := hb7.trans (hb8.mono hb7.size)
    clear hb7 e7
    go_wp2_with fail
    refine (implTakeTiles_any b c _ (by omega) (by omega)).mono ?_
    rw [e8]
    rintro e w9 ⟨rfl, hb9⟩
    have hb9 := hb8.trans (hb9.mono hb8.size)
    clear hb8 e8
    go_wp2_with fail
    refine (implCommonTiles_any r m _ (by omega) (by omega)).mono ?_
    rw [e9]
    rintro e wa ⟨rfl, hba⟩
    have hba := hb9.trans (hba.mono hb9.size)
    clear hb9 e9
    go_wp2_with fail
    refine (implContainsTiles_any a b _ (by omega) (by omega)).mono ?_
    rw [E10.out]
    by_cases hcb : c = b
    · subst hcb
      rw [decide_eq_true rfl]
      have q3 : (c.toList == c.toList) = true := by simp
      rintro e wb ⟨rfl, hbb⟩
      have hbb := hba.trans (hbb.mono hba.size)
      go_wp2
      go_ret
      exact ⟨rfl, hbb⟩
    · rw [decide_eq_false hcb]
      have q3 : (c.toList == b.toList) = false := by
        rw [beq_eq_false_iff_ne, Lib.toList_data, Lib.toList_data]
        intro e; apply hcb; apply ByteArray.ext; exact Array.toList_inj.1 e
      rintro e wb ⟨rfl, hbb⟩
      have hbb := hba.trans (hbb.mono hba.size)
      clear hcb
      go_wp2
      go_ret
      exact ⟨rfl, hbb⟩
end
namespace fnRacks
open Go.ChangeShapes Go.WideShapes Go.ChangeAt Go.RowKit
open Go.ChangeMaps (open_string shut_string)
set_option maxRecDepth 100000 in
theorem lifted (os : Os) (started : os.Started) (H : Type) (enc : TypeId × Value → H) :
    ReturnsInHanded {} Try.checked os 10 .any (Rows.fnRacksSpec.pre6 enc Try.prog Try.f10 Rows.fnRacksRow.domain false) (Rows.fnRacksSpec.post enc Try.prog Try.f10 false true false false) := by
  refine returnsInHanded_of_change (C := Try.checked) Try.own started (by kernel_rfl) Try.func10
    (ChangeSpec.witness6 (enc := enc) (C := Try.checked) false ⟨#[], #[.slice none 0 0], []⟩ 8 (by kernel_rfl) (by kernel_rfl) (by kernel_rfl) (by kernel_rfl)) ?_
  intro W base args ds gs before hval0 hW hcnd _
  have hval : ∀ (j : Nat) t v, Try.f10.params[j]? = some t → args[j]? = some v → Value.okWide Try.prog W .any base t v := hval0
  have hW' := hW
  obtain ⟨p, q, hA0, hV, rfl, hfz, hnd⟩ := hW
  have hA : DataW.TrodAll enc Try.prog W 0 (fun _ => true) true Try.f10.params.toList args.toList ds p := hA0
  rw [Try.params10] at hA hval
  obtain ⟨v0, vs0, d0, ds0, p0, q0, hargs, rfl, rfl, h0, r0⟩ := trodAll_cons hA
  obtain ⟨rfl, rfl, rfl⟩ := trodAll_nil r0
  obtain rfl : args = #[v0] := by cases args; simp_all
  obtain ⟨rfl, rfl⟩ := trodVars_none hV
  obtain ⟨a0, w0⟩ := open_bytes (hval 0 27 v0 rfl rfl) h0
  refine (fnRacks_walk v0 a0 w0 (w := W)).mono fun e W' ⟨he, hg⟩ => ?_
  subst he
  exact ⟨_, rfl, law_post Try.laidOut (by kernel_rfl) (by kernel_rfl) Try.underlying4 rfl rfl hW' hg⟩

theorem over : Rows.fnRacksRow.holds Try.pinned (OpenSpec.ofChange Rows.fnRacksSpec) :=
  OpenClaim.holds_of_wide 10 Try.f10 rfl rfl rfl rfl rfl rfl rfl ⟨rfl, rfl, rfl, rfl, rfl⟩ rfl rfl rfl rfl rfl (by kernel_rfl) Try.func10 (by kernel_rfl)
    (of_decide_eq_true (by kernel_rfl)) (by unfold Func.isWrapper; first | (rw [if_pos (by decide +kernel)]; kernel_rfl) | (rw [if_neg (by decide +kernel)]; exact ⟨rfl, rfl⟩))
    (fun os started H enc _ => lifted os started H enc)

theorem proved : Rows.FnRacksSaid := over
end fnRacks

end Go.Proofs.Ytenfdjnmkmeaiaa
