/- FnExactStandardNames returns true: the two names, in memory of their own at each call. No condition. -/
import Derived.Test.YtackjbpfnmnkgaaF
import Derived.Test.YtackjbpfnmnkgaaEq
namespace Go.Proofs.Ytackjbpfnmnkgaa
open Go.RowKit
def stdNames : List ByteArray := [⟨#[101, 110, 103, 108, 105, 115, 104]⟩, ⟨#[115, 109, 97, 108, 108]⟩]
theorem names_made (w : World) (l : List ByteArray) (hl : l.length ≤ 1000) (hs : ∀ s ∈ l, s.size ≤ maxLen) : StrsW (w.alloc (.cells (l.map Value.string).toArray 9)) w.heap.size (w.heap.size + 1) (.slice (some ⟨w.heap.size, 0, none⟩) l.length l.length) l := by
  refine ⟨⟨by simp, _, _, rfl, Nat.le_refl _, by unfold maxLen; omega, .inr ⟨w.heap.size, 0, _, rfl, Nat.le_refl _, by omega, heap_alloc_new w _, by simp, by simp [List.take_of_length_le]⟩⟩, hs⟩
theorem implStandardNames_any (w : World) :
    Calls Try.prog 16 #[] w fun e w' => ∃ v, e = .returned v ∧ StrsW w' w.heap.size w'.heap.size v stdNames ∧ Below w.heap.size w w' := by
  go_enter Try.func16, Try.ntmps16
  go_wp2
  go_ret
  exact ⟨_, rfl, (names_made w stdNames (by decide) (by decide)).mono (Nat.le_refl _) (by simp), (Below.refl _ _).alloc (Nat.le_refl _) _⟩
theorem specStandardNames_any (w : World) :
    Calls Try.prog 15 #[] w fun e w' => ∃ v, e = .returned v ∧ StrsW w' w.heap.size w'.heap.size v stdNames ∧ Below w.heap.size w w' := by
  go_enter Try.func15, Try.ntmps15
  go_wp2
  go_ret
  exact ⟨_, rfl, (names_made w stdNames (by decide) (by decide)).mono (Nat.le_refl _) (by simp), (Below.refl _ _).alloc (Nat.le_refl _) _⟩
theorem fnExactStandardNames_walk (w : World) :
    Calls Try.prog 7 #[] w fun e w' => e = .returned (.bool true) ∧ Below w.heap.size w w' := by
  have hl : stdNames.length = 2 := rfl
  have Hl := Lib.hid hl
  clear hl
  go_enter Try.func7, Try.ntmps7
  go_wp2_with fail
  refine (specStandardNames_any _).mono ?_
  rintro e w1 ⟨v0, rfl, hv0, hb1⟩
  go_wp2_with fail
  refine (implStandardNames_any _).mono ?_
  rintro e w2 ⟨v1, rfl, hv1, hb2⟩
  have hb2' := hb1.trans (hb2.mono hb1.size)
  go_wp2_with fail
  refine (eqStringS_any _ _ _ _ _ hv1.read (hv0.below hb2).read).mono ?_
  rintro e w3 ⟨rfl, hb3⟩
  have hb3' := hb2'.trans (hb3.mono hb2'.size)
  go_wp2_with fail
  refine (markStringS_any _ _ _ w1.heap.size w2.heap.size _ (hv1.below hb3) (by omega) (by rw [Hl.out]; omega)).mono ?_
  rintro e w4 ⟨rfl, hm4, hk4⟩
  have hb4' := hb3'.trans (hk4.below hb1.size hb3'.size)
  have hv0' := ((hv0.below hb2).below hb3).kept hk4 (.inl (Nat.le_refl _))
  go_wp2_with fail
  refine (heldStringS_any _ stdNames _ _ hm4.read (by omega) (by rw [Hl.out]; omega)).mono ?_
  rintro e w5 ⟨rfl, hb5⟩
  have hb5' := hb4'.trans (hb5.mono hb4'.size)
  have hq : ¬ (1 + (stdNames.length : Int) < 0) := by omega
  have hq2 : ((1 + (stdNames.length : Int)) != (1 + (stdNames.length : Int))) = false := by simp
  go_wp2_with fail
  refine (implStandardNames_any _).mono ?_
  rintro e w6 ⟨v2, rfl, hv2, hb6⟩
  have hb6' := hb5'.trans (hb6.mono hb5'.size)
  go_wp2_with fail
  refine (eqStringS_any _ _ _ _ _ hv2.read ((hv0'.below hb5).below hb6).read).mono ?_
  rintro e w7 ⟨rfl, hb7⟩
  have hb7' := hb6'.trans (hb7.mono hb6'.size)
  go_wp2_with fail
  refine (heldStringS_any _ stdNames _ _ ((((hm4.below hb5).below hb6).below hb7).read) (by omega) (by rw [Hl.out]; omega)).mono ?_
  rintro e w8 ⟨rfl, hb8⟩
  have hb8' := hb7'.trans (hb8.mono hb7'.size)
  go_wp2
  go_ret
  exact ⟨rfl, hb8'⟩
namespace fnExactStandardNames
open Go.ChangeShapes Go.WideShapes Go.ChangeAt Go.RowKit
open Go.ChangeMaps (open_string shut_string)
set_option maxRecDepth 100000 in
theorem lifted (os : Os) (started : os.Started) (H : Type) (enc : TypeId × Value → H) :
    ReturnsInHanded {} Try.checked os 7 .any (Rows.fnExactStandardNamesSpec.pre6 enc Try.prog Try.f7 Rows.fnExactStandardNamesRow.domain false) (Rows.fnExactStandardNamesSpec.post enc Try.prog Try.f7 false true false false) := by
  refine returnsInHanded_of_change (C := Try.checked) Try.own started (by kernel_rfl) Try.func7
    (ChangeSpec.witness6 (enc := enc) (C := Try.checked) false ⟨#[], #[], []⟩ 8 (by kernel_rfl) (by kernel_rfl) (by kernel_rfl) (by kernel_rfl)) ?_
  intro W base args ds gs before hval0 hW hcnd _
  have hval : ∀ (j : Nat) t v, Try.f7.params[j]? = some t → args[j]? = some v → Value.okWide Try.prog W .any base t v := hval0
  have hW' := hW
  obtain ⟨p, q, hA0, hV, rfl, hfz, hnd⟩ := hW
  have hA : DataW.TrodAll enc Try.prog W 0 (fun _ => true) true Try.f7.params.toList args.toList ds p := hA0
  rw [Try.params7] at hA hval
  obtain ⟨hargs, rfl, rfl⟩ := trodAll_nil hA
  obtain rfl : args = #[] := by cases args; simp_all
  obtain ⟨rfl, rfl⟩ := trodVars_none hV
  refine (fnExactStandardNames_walk W).mono fun e W' ⟨he, hg⟩ => ?_
  subst he
  exact ⟨_, rfl, law_post Try.laidOut (by kernel_rfl) (by kernel_rfl) Try.underlying4 rfl rfl hW' hg⟩

theorem over : Rows.fnExactStandardNamesRow.holds Try.pinned (OpenSpec.ofChange Rows.fnExactStandardNamesSpec) :=
  OpenClaim.holds_of_wide 7 Try.f7 rfl rfl rfl rfl rfl rfl rfl ⟨rfl, rfl, rfl, rfl, rfl⟩ rfl rfl rfl rfl rfl (by kernel_rfl) Try.func7 (by kernel_rfl)
    (of_decide_eq_true (by kernel_rfl)) (by unfold Func.isWrapper; first | (rw [if_pos (by decide +kernel)]; kernel_rfl) | (rw [if_neg (by decide +kernel)]; exact ⟨rfl, rfl⟩))
    (fun os started H enc _ => lifted os started H enc)

theorem proved : Rows.FnExactStandardNamesSaid := over
end fnExactStandardNames

end Go.Proofs.Ytackjbpfnmnkgaa
