/- FnExactSubRacks returns true for all strings: the program and the reference answer alike, in memory of their own. No condition. -/
import Derived.Test.YthpjinfkagllfaaF
import Derived.Test.YthpjinfkagllfaaEq
import Derived.Test.YthpjinfkagllfaaSuR
namespace Go.Proofs.Ythpjinfkagllfaa
open Go.RowKit
theorem srV_len (a : ByteArray) : (srV a).length ≤ 1048576 := by
  cases hA : isRack a
  · rw [(srV_no hA).1]; simp
  · rw [(srV_yes hA).1]; have := (rackF hA).1.all; omega
set_option maxHeartbeats 4000000 in
set_option maxRecDepth 20000 in
theorem fnExactSubRacks_walk (w : World) (x0 : ByteArray) (h0 : x0.size ≤ maxLen) :
    Calls Try.prog 4 #[.string x0] w fun e w' => e = .returned (.bool true) ∧ Below w.heap.size w w' := by
  have hlim0 : x0.size ≤ maxLen := h0
  unfold maxLen at hlim0
  clear h0
  by_cases h0 : x0.size ≤ 1048576
  rotate_left
  · go_enter Try.func4, Try.ntmps4
    go_wp2
    go_ret
    exact ⟨rfl, Below.refl w.heap.size w⟩
  clear hlim0
  suffices main : ∀ w0 : World, Below w.heap.size w w0 → Calls Try.prog 4 #[.string x0] w0 fun e w' => e = .returned (.bool true) ∧ Below w.heap.size w w' from main w (Below.refl _ _)
  intro w0 HB0
  have hz0 : w.heap.size ≤ w0.heap.size := HB0.size
  have HB0 := Lib.hid HB0
  go_enter Try.func4, Try.ntmps4
  go_wp2_with fail
  refine (specSubRacks_any x0 _ h0 ).mono ?_
  rintro e w1 ⟨_, rfl, gw00, hb⟩
  have hz1 : w0.heap.size ≤ w1.heap.size := hb.size
  have HB1 := Lib.hid (HB0.out.trans (hb.mono HB0.out.size))
  clear hb HB0
  have Gw0_1 := Lib.hid gw00
  clear gw00
  go_wp2_with fail
  refine (implSubRacks_any x0 _ h0 ).mono ?_
  rintro e w2 ⟨_, rfl, gg00, hb⟩
  have hz2 : w1.heap.size ≤ w2.heap.size := hb.size
  have HB2 := Lib.hid (HB1.out.trans (hb.mono HB1.out.size))
  have Gw0_2 := Lib.hid (Gw0_1.out.below hb)
  clear hb HB1 Gw0_1
  have Gg0_2 := Lib.hid gg00
  clear gg00
  go_wp2_with fail
  refine (eqStringS_any _ _ _ _ _ Gg0_2.out.read Gw0_2.out.read).mono ?_
  rintro e w3 ⟨rfl, hb⟩
  have hz3 : w2.heap.size ≤ w3.heap.size := hb.size
  have HB3 := Lib.hid (HB2.out.trans (hb.mono HB2.out.size))
  have Gw0_3 := Lib.hid (Gw0_2.out.below hb)
  have Gg0_3 := Lib.hid (Gg0_2.out.below hb)
  clear hb HB2 Gw0_2 Gg0_2
  go_wp2_with fail
  have hlen := srV_len x0
  refine (markStringS_any _ _ _ w1.heap.size w2.heap.size _ Gg0_3.out (by omega) (by omega)).mono ?_
  rintro e w4 ⟨rfl, hm, hk⟩
  have hz4 : w3.heap.size ≤ w4.heap.size := hk.size
  have HB4 := Lib.hid (HB3.out.trans (hk.below (by omega) HB3.out.size))
  have Gw0_4 := Lib.hid (Gw0_3.out.kept hk (by omega))
  clear hk HB3 Gw0_3 Gg0_3
  have Gg0_4 := Lib.hid hm
  clear hm
  have hq1 : ¬ ((1 : Int) + ((srV x0).length : Int) < 0) := by omega
  have hq2 : (((1 : Int) + ((srV x0).length : Int)) != (1 + ((srV x0).length : Int))) = false := by simp
  go_wp2_with fail
  refine (heldStringS_any _ (srV x0) _ _ Gg0_4.out.read (by omega) (by omega)).mono ?_
  rintro e w5 ⟨rfl, hb⟩
  have hz5 : w4.heap.size ≤ w5.heap.size := hb.size
  have HB5 := Lib.hid (HB4.out.trans (hb.mono HB4.out.size))
  have Gw0_5 := Lib.hid (Gw0_4.out.below hb)
  have Gg0_5 := Lib.hid (Gg0_4.out.below hb)
  clear hb HB4 Gw0_4 Gg0_4
  go_wp2_with fail
  refine (implSubRacks_any x0 _ h0 ).mono ?_
  rintro e w6 ⟨_, rfl, gh00, hb⟩
  have hz6 : w5.heap.size ≤ w6.heap.size := hb.size
  have HB6 := Lib.hid (HB5.out.trans (hb.mono HB5.out.size))
  have Gw0_6 := Lib.hid (Gw0_5.out.below hb)
  have Gg0_6 := Lib.hid (Gg0_5.out.below hb)
  clear hb HB5 Gw0_5 Gg0_5
  have Gh0_6 := Lib.hid gh00
  clear gh00
  go_wp2_with fail
  refine (eqStringS_any _ _ _ _ _ Gh0_6.out.read Gw0_6.out.read).mono ?_
  rintro e w7 ⟨rfl, hb⟩
  have hz7 : w6.heap.size ≤ w7.heap.size := hb.size
  have HB7 := Lib.hid (HB6.out.trans (hb.mono HB6.out.size))
  have Gw0_7 := Lib.hid (Gw0_6.out.below hb)
  have Gg0_7 := Lib.hid (Gg0_6.out.below hb)
  have Gh0_7 := Lib.hid (Gh0_6.out.below hb)
  clear hb HB6 Gw0_6 Gg0_6 Gh0_6
  go_wp2_with fail
  refine (heldStringS_any _ (srV x0) _ _ Gg0_7.out.read (by omega) (by omega)).mono ?_
  rintro e w8 ⟨rfl, hb⟩
  have hz8 : w7.heap.size ≤ w8.heap.size := hb.size
  have HB8 := Lib.hid (HB7.out.trans (hb.mono HB7.out.size))
  have Gw0_8 := Lib.hid (Gw0_7.out.below hb)
  have Gg0_8 := Lib.hid (Gg0_7.out.below hb)
  have Gh0_8 := Lib.hid (Gh0_7.out.below hb)
  clear hb HB7 Gw0_7 Gg0_7 Gh0_7
  go_wp2
  go_ret
  exact ⟨rfl, HB8.out⟩

namespace fnExactSubRacks
open Go.ChangeShapes Go.WideShapes Go.ChangeAt Go.RowKit
open Go.ChangeMaps (open_string shut_string)
set_option maxRecDepth 100000 in
theorem lifted (os : Os) (started : os.Started) (H : Type) (enc : TypeId × Value → H) :
    ReturnsInHanded {} Try.checked os 4 .any (Rows.fnExactSubRacksSpec.pre6 enc Try.prog Try.f4 Rows.fnExactSubRacksRow.domain false) (Rows.fnExactSubRacksSpec.post enc Try.prog Try.f4 false true false false) := by
  refine returnsInHanded_of_change (C := Try.checked) Try.own started (by kernel_rfl) Try.func4
    (ChangeSpec.witness6 (enc := enc) (C := Try.checked) false ⟨#[], #[.string ByteArray.empty], []⟩ 8 (by kernel_rfl) (by kernel_rfl) (by kernel_rfl) (by kernel_rfl)) ?_
  intro W base args ds gs before hval0 hW hcnd _
  have hval : ∀ (j : Nat) t v, Try.f4.params[j]? = some t → args[j]? = some v → Value.okWide Try.prog W .any base t v := hval0
  have hW' := hW
  obtain ⟨p, q, hA0, hV, rfl, hfz, hnd⟩ := hW
  have hA : DataW.TrodAll enc Try.prog W 0 (fun _ => true) true Try.f4.params.toList args.toList ds p := hA0
  rw [Try.params4] at hA hval
  obtain ⟨v0, vs0, d0, ds0, p0, q0, hargs, rfl, rfl, h0, r0⟩ := trodAll_cons hA
  obtain ⟨rfl, rfl, rfl⟩ := trodAll_nil r0
  obtain rfl : args = #[v0] := by cases args; simp_all
  obtain ⟨rfl, rfl⟩ := trodVars_none hV
  obtain ⟨a0, rfl, rfl, rfl, w0⟩ := open_string Try.underlying9 (hval 0 9 v0 rfl rfl) h0
  refine (fnExactSubRacks_walk a0 w0 (w := W)).mono fun e W' ⟨he, hg⟩ => ?_
  subst he
  exact ⟨_, rfl, law_post Try.laidOut (by kernel_rfl) (by kernel_rfl) Try.underlying4 rfl rfl hW' hg⟩

theorem over : Rows.fnExactSubRacksRow.holds Try.pinned (OpenSpec.ofChange Rows.fnExactSubRacksSpec) :=
  OpenClaim.holds_of_wide 4 Try.f4 rfl rfl rfl rfl rfl rfl rfl ⟨rfl, rfl, rfl, rfl, rfl⟩ rfl rfl rfl rfl rfl (by kernel_rfl) Try.func4 (by kernel_rfl)
    (of_decide_eq_true (by kernel_rfl)) (by unfold Func.isWrapper; first | (rw [if_pos (by decide +kernel)]; kernel_rfl) | (rw [if_neg (by decide +kernel)]; exact ⟨rfl, rfl⟩))
    (fun os started H enc _ => lifted os started H enc)

theorem proved : Rows.FnExactSubRacksSaid := over
end fnExactSubRacks

end Go.Proofs.Ythpjinfkagllfaa
