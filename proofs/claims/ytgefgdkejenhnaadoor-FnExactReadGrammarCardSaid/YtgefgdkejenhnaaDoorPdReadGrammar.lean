/- FnExactReadGrammar returns true for all strings: the program and the reference answer alike, and the result shares no memory; and its tied card. No condition but what the row lists. -/
import Derived.Test.YtgefgdkejenhnaaDoorCards
import Derived.Test.YtgefgdkejenhnaaDoorTie
import Derived.Test.YtgefgdkejenhnaaDoorFd
import Derived.Test.YtgefgdkejenhnaaDoorRgI
import Derived.Test.YtgefgdkejenhnaaDoorMk
import Derived.Test.YtgefgdkejenhnaaDoorGv
namespace Go.Proofs.YtgefgdkejenhnaaDoor
open Go.RowKit
theorem rgG_cnt (s : ByteArray) : cntG (rgG s) ≤ 2000000000000 := by
  rcases readV_cases s with ⟨g, h1, h2, h3⟩ | ⟨h3, -⟩
  · rw [(rg_some h3).1]
    have hS := graS h1
    have hu := useN_bound g.stems fun y hy => by
      obtain ⟨i, hi, rfl⟩ := List.getElem_of_mem hy
      have := (hS.sts i hi).u; omega
    have h4 := hS.a
    have h5 := hS.s
    have h6 : g.stems.length * 1048577 ≤ 30 * 1048577 := Nat.mul_le_mul_right _ h5
    show 5 * g.affixes.length + useN g.stems ≤ _
    omega
  · rw [(rg_none h3).1]; decide
set_option maxHeartbeats 4000000 in
set_option maxRecDepth 20000 in
theorem fnExactReadGrammar_walk (w : World) (x0 : ByteArray) (h0 : x0.size ≤ maxLen) (hML : MaxL w) :
    Calls Tryd.prog 7 #[.string x0] w fun e w' => e = .returned (.bool true) ∧ Below w.heap.size w w' := by
  have HML := Lib.hid hML
  clear hML
  have hlim0 : x0.size ≤ maxLen := h0
  unfold maxLen at hlim0
  clear h0
  by_cases h0 : x0.size ≤ 1048576
  rotate_left
  · go_enter Tryd.func7, Tryd.ntmps7
    go_wp2
    go_ret
    exact ⟨rfl, Below.refl w.heap.size w⟩
  clear hlim0
  suffices main : ∀ w0 : World, Below w.heap.size w w0 → Calls Tryd.prog 7 #[.string x0] w0 fun e w' => e = .returned (.bool true) ∧ Below w.heap.size w w' from main w (Below.refl _ _)
  intro w0 HB0
  have hz0 : w.heap.size ≤ w0.heap.size := HB0.size
  have HB0 := Lib.hid HB0
  go_enter Tryd.func7, Tryd.ntmps7
  go_wp2_with fail
  refine (specReadGrammar_any x0 _ h0 (HML.out.below HB0.out)).mono ?_
  rintro e w1 ⟨_, rfl, gw00, hb⟩
  have hz1 : w0.heap.size ≤ w1.heap.size := hb.size
  have HB1 := Lib.hid (HB0.out.trans (hb.mono HB0.out.size))
  clear hb HB0
  have Gw0_1 := Lib.hid gw00
  clear gw00
  obtain ⟨aGw0, cGw0, bGw0, dGw0, rfl⟩ := Gw0_1.out.shape
  go_wp2_with fail
  have hb := (Below.refl w1.heap.size w1).alloc (Nat.le_refl _) (.cells #[.slice aGw0 (rgG x0).affixes.length cGw0, .slice bGw0 (rgG x0).stems.length dGw0] 31)
  have hzb : (w1.alloc (.cells #[.slice aGw0 (rgG x0).affixes.length cGw0, .slice bGw0 (rgG x0).stems.length dGw0] 31)).heap.size = w1.heap.size + 1 := by simp
  have hxGw0_0_2 := cell_newi w1 #[.slice aGw0 (rgG x0).affixes.length cGw0, .slice bGw0 (rgG x0).stems.length dGw0] 31 0 (.slice aGw0 (rgG x0).affixes.length cGw0) rfl
  have hxGw0_1_2 := cell_newi w1 #[.slice aGw0 (rgG x0).affixes.length cGw0, .slice bGw0 (rgG x0).stems.length dGw0] 31 1 (.slice bGw0 (rgG x0).stems.length dGw0) rfl
  generalize w1.alloc (.cells #[.slice aGw0 (rgG x0).affixes.length cGw0, .slice bGw0 (rgG x0).stems.length dGw0] 31) = w2 at hb hzb hxGw0_0_2 hxGw0_1_2 ⊢
  have hz2 : w1.heap.size ≤ w2.heap.size := hb.size
  have HB2 := Lib.hid (HB1.out.trans (hb.mono HB1.out.size))
  have Gw0_2 := Lib.hid (Gw0_1.out.below hb)
  clear hb HB1 Gw0_1
  refine (implReadGrammar_any x0 _ h0 (HML.out.below HB2.out)).mono ?_
  rintro e w3 ⟨_, rfl, gg00, hb⟩
  have hz3 : w2.heap.size ≤ w3.heap.size := hb.size
  have HB3 := Lib.hid (HB2.out.trans (hb.mono HB2.out.size))
  have hxGw0_0_3 := cell_below hb hxGw0_0_2
  have hxGw0_1_3 := cell_below hb hxGw0_1_2
  have Gw0_3 := Lib.hid (Gw0_2.out.below hb)
  clear hb HB2 hxGw0_0_2 hxGw0_1_2 Gw0_2
  have Gg0_3 := Lib.hid gg00
  clear gg00
  obtain ⟨aGg0, cGg0, bGg0, dGg0, rfl⟩ := Gg0_3.out.shape
  have hp_hxGw0_0 := cell_alloc (.cells #[.slice aGg0 (rgG x0).affixes.length cGg0, .slice bGg0 (rgG x0).stems.length dGg0] 31) hxGw0_0_3
  have hp_hxGw0_1 := cell_alloc (.cells #[.slice aGg0 (rgG x0).affixes.length cGg0, .slice bGg0 (rgG x0).stems.length dGg0] 31) hxGw0_1_3
  go_wp2_with fail
  clear hp_hxGw0_0 hp_hxGw0_1
  have hb := (Below.refl w3.heap.size w3).alloc (Nat.le_refl _) (.cells #[.slice aGg0 (rgG x0).affixes.length cGg0, .slice bGg0 (rgG x0).stems.length dGg0] 31)
  have hzb : (w3.alloc (.cells #[.slice aGg0 (rgG x0).affixes.length cGg0, .slice bGg0 (rgG x0).stems.length dGg0] 31)).heap.size = w3.heap.size + 1 := by simp
  have hxGg0_0_4 := cell_newi w3 #[.slice aGg0 (rgG x0).affixes.length cGg0, .slice bGg0 (rgG x0).stems.length dGg0] 31 0 (.slice aGg0 (rgG x0).affixes.length cGg0) rfl
  have hxGg0_1_4 := cell_newi w3 #[.slice aGg0 (rgG x0).affixes.length cGg0, .slice bGg0 (rgG x0).stems.length dGg0] 31 1 (.slice bGg0 (rgG x0).stems.length dGg0) rfl
  generalize w3.alloc (.cells #[.slice aGg0 (rgG x0).affixes.length cGg0, .slice bGg0 (rgG x0).stems.length dGg0] 31) = w4 at hb hzb hxGg0_0_4 hxGg0_1_4 ⊢
  have hz4 : w3.heap.size ≤ w4.heap.size := hb.size
  have HB4 := Lib.hid (HB3.out.trans (hb.mono HB3.out.size))
  have hxGw0_0_4 := cell_below hb hxGw0_0_3
  have hxGw0_1_4 := cell_below hb hxGw0_1_3
  have Gw0_4 := Lib.hid (Gw0_3.out.below hb)
  have Gg0_4 := Lib.hid (Gg0_3.out.below hb)
  clear hb HB3 hxGw0_0_3 hxGw0_1_3 Gw0_3 Gg0_3
  refine (eqGrammar_any _ _ _ _ _ Gg0_4.out.read Gw0_4.out.read).mono ?_
  rintro e w5 ⟨rfl, hb⟩
  have hz5 : w4.heap.size ≤ w5.heap.size := hb.size
  have HB5 := Lib.hid (HB4.out.trans (hb.mono HB4.out.size))
  have hxGw0_0_5 := cell_below hb hxGw0_0_4
  have hxGw0_1_5 := cell_below hb hxGw0_1_4
  have hxGg0_0_5 := cell_below hb hxGg0_0_4
  have hxGg0_1_5 := cell_below hb hxGg0_1_4
  have Gw0_5 := Lib.hid (Gw0_4.out.below hb)
  have Gg0_5 := Lib.hid (Gg0_4.out.below hb)
  clear hb HB4 hxGw0_0_4 hxGw0_1_4 hxGg0_0_4 hxGg0_1_4 Gw0_4 Gg0_4
  go_wp2_with fail
  have hlen := rgG_cnt x0
  refine (markGrammar_any _ _ _ w2.heap.size w3.heap.size _ Gg0_5.out (by omega) (by omega) (by omega)).mono ?_
  rintro e w6 ⟨rfl, hm, hk⟩
  have hz6 : w5.heap.size ≤ w6.heap.size := hk.size
  have HB6 := Lib.hid (HB5.out.trans (hk.below (by omega) HB5.out.size))
  have hxGw0_0_6 := cell_kept hk hxGw0_0_5 (by show w1.heap.size < _ ∨ _ ≤ w1.heap.size; omega)
  have hxGw0_1_6 := cell_kept hk hxGw0_1_5 (by show w1.heap.size < _ ∨ _ ≤ w1.heap.size; omega)
  have hxGg0_0_6 := cell_kept hk hxGg0_0_5 (by show w3.heap.size < _ ∨ _ ≤ w3.heap.size; omega)
  have hxGg0_1_6 := cell_kept hk hxGg0_1_5 (by show w3.heap.size < _ ∨ _ ≤ w3.heap.size; omega)
  have Gw0_6 := Lib.hid (Gw0_5.out.kept hk (by omega))
  clear hk HB5 hxGw0_0_5 hxGw0_1_5 hxGg0_0_5 hxGg0_1_5 Gw0_5 Gg0_5
  have Gg0_6 := Lib.hid hm
  clear hm
  have hq1 : ¬ ((1 : Int) + (cntG (rgG x0) : Int) < 0) := by omega
  have hq2 : (((1 : Int) + (cntG (rgG x0) : Int)) != (1 + (cntG (rgG x0) : Int))) = false := by simp
  go_wp2_with fail
  refine (heldGrammar_any _ (rgG x0) _ _ Gg0_6.out.read (by omega) (by omega)).mono ?_
  rintro e w7 ⟨rfl, hb⟩
  have hz7 : w6.heap.size ≤ w7.heap.size := hb.size
  have HB7 := Lib.hid (HB6.out.trans (hb.mono HB6.out.size))
  have hxGw0_0_7 := cell_below hb hxGw0_0_6
  have hxGw0_1_7 := cell_below hb hxGw0_1_6
  have hxGg0_0_7 := cell_below hb hxGg0_0_6
  have hxGg0_1_7 := cell_below hb hxGg0_1_6
  have Gw0_7 := Lib.hid (Gw0_6.out.below hb)
  have Gg0_7 := Lib.hid (Gg0_6.out.below hb)
  clear hb HB6 hxGw0_0_6 hxGw0_1_6 hxGg0_0_6 hxGg0_1_6 Gw0_6 Gg0_6
  go_wp2_with fail
  refine (implReadGrammar_any x0 _ h0 (HML.out.below HB7.out)).mono ?_
  rintro e w8 ⟨_, rfl, gh00, hb⟩
  have hz8 : w7.heap.size ≤ w8.heap.size := hb.size
  have HB8 := Lib.hid (HB7.out.trans (hb.mono HB7.out.size))
  have hxGw0_0_8 := cell_below hb hxGw0_0_7
  have hxGw0_1_8 := cell_below hb hxGw0_1_7
  have hxGg0_0_8 := cell_below hb hxGg0_0_7
  have hxGg0_1_8 := cell_below hb hxGg0_1_7
  have Gw0_8 := Lib.hid (Gw0_7.out.below hb)
  have Gg0_8 := Lib.hid (Gg0_7.out.below hb)
  clear hb HB7 hxGw0_0_7 hxGw0_1_7 hxGg0_0_7 hxGg0_1_7 Gw0_7 Gg0_7
  have Gh0_8 := Lib.hid gh00
  clear gh00
  obtain ⟨aGh0, cGh0, bGh0, dGh0, rfl⟩ := Gh0_8.out.shape
  have hp_hxGw0_0 := cell_alloc (.cells #[.slice aGh0 (rgG x0).affixes.length cGh0, .slice bGh0 (rgG x0).stems.length dGh0] 31) hxGw0_0_8
  have hp_hxGw0_1 := cell_alloc (.cells #[.slice aGh0 (rgG x0).affixes.length cGh0, .slice bGh0 (rgG x0).stems.length dGh0] 31) hxGw0_1_8
  have hp_hxGg0_0 := cell_alloc (.cells #[.slice aGh0 (rgG x0).affixes.length cGh0, .slice bGh0 (rgG x0).stems.length dGh0] 31) hxGg0_0_8
  have hp_hxGg0_1 := cell_alloc (.cells #[.slice aGh0 (rgG x0).affixes.length cGh0, .slice bGh0 (rgG x0).stems.length dGh0] 31) hxGg0_1_8
  go_wp2_with fail
  clear hp_hxGw0_0 hp_hxGw0_1 hp_hxGg0_0 hp_hxGg0_1
  have hb := (Below.refl w8.heap.size w8).alloc (Nat.le_refl _) (.cells #[.slice aGh0 (rgG x0).affixes.length cGh0, .slice bGh0 (rgG x0).stems.length dGh0] 31)
  have hzb : (w8.alloc (.cells #[.slice aGh0 (rgG x0).affixes.length cGh0, .slice bGh0 (rgG x0).stems.length dGh0] 31)).heap.size = w8.heap.size + 1 := by simp
  have hxGh0_0_9 := cell_newi w8 #[.slice aGh0 (rgG x0).affixes.length cGh0, .slice bGh0 (rgG x0).stems.length dGh0] 31 0 (.slice aGh0 (rgG x0).affixes.length cGh0) rfl
  have hxGh0_1_9 := cell_newi w8 #[.slice aGh0 (rgG x0).affixes.length cGh0, .slice bGh0 (rgG x0).stems.length dGh0] 31 1 (.slice bGh0 (rgG x0).stems.length dGh0) rfl
  generalize w8.alloc (.cells #[.slice aGh0 (rgG x0).affixes.length cGh0, .slice bGh0 (rgG x0).stems.length dGh0] 31) = w9 at hb hzb hxGh0_0_9 hxGh0_1_9 ⊢
  have hz9 : w8.heap.size ≤ w9.heap.size := hb.size
  have HB9 := Lib.hid (HB8.out.trans (hb.mono HB8.out.size))
  have hxGw0_0_9 := cell_below hb hxGw0_0_8
  have hxGw0_1_9 := cell_below hb hxGw0_1_8
  have hxGg0_0_9 := cell_below hb hxGg0_0_8
  have hxGg0_1_9 := cell_below hb hxGg0_1_8
  have Gw0_9 := Lib.hid (Gw0_8.out.below hb)
  have Gg0_9 := Lib.hid (Gg0_8.out.below hb)
  have Gh0_9 := Lib.hid (Gh0_8.out.below hb)
  clear hb HB8 hxGw0_0_8 hxGw0_1_8 hxGg0_0_8 hxGg0_1_8 Gw0_8 Gg0_8 Gh0_8
  refine (eqGrammar_any _ _ _ _ _ Gh0_9.out.read Gw0_9.out.read).mono ?_
  rintro e w10 ⟨rfl, hb⟩
  have hz10 : w9.heap.size ≤ w10.heap.size := hb.size
  have HB10 := Lib.hid (HB9.out.trans (hb.mono HB9.out.size))
  have hxGw0_0_10 := cell_below hb hxGw0_0_9
  have hxGw0_1_10 := cell_below hb hxGw0_1_9
  have hxGg0_0_10 := cell_below hb hxGg0_0_9
  have hxGg0_1_10 := cell_below hb hxGg0_1_9
  have hxGh0_0_10 := cell_below hb hxGh0_0_9
  have hxGh0_1_10 := cell_below hb hxGh0_1_9
  have Gw0_10 := Lib.hid (Gw0_9.out.below hb)
  have Gg0_10 := Lib.hid (Gg0_9.out.below hb)
  have Gh0_10 := Lib.hid (Gh0_9.out.below hb)
  clear hb HB9 hxGw0_0_9 hxGw0_1_9 hxGg0_0_9 hxGg0_1_9 hxGh0_0_9 hxGh0_1_9 Gw0_9 Gg0_9 Gh0_9
  go_wp2_with fail
  refine (heldGrammar_any _ (rgG x0) _ _ Gg0_10.out.read (by omega) (by omega)).mono ?_
  rintro e w11 ⟨rfl, hb⟩
  have hz11 : w10.heap.size ≤ w11.heap.size := hb.size
  have HB11 := Lib.hid (HB10.out.trans (hb.mono HB10.out.size))
  have hxGw0_0_11 := cell_below hb hxGw0_0_10
  have hxGw0_1_11 := cell_below hb hxGw0_1_10
  have hxGg0_0_11 := cell_below hb hxGg0_0_10
  have hxGg0_1_11 := cell_below hb hxGg0_1_10
  have hxGh0_0_11 := cell_below hb hxGh0_0_10
  have hxGh0_1_11 := cell_below hb hxGh0_1_10
  have Gw0_11 := Lib.hid (Gw0_10.out.below hb)
  have Gg0_11 := Lib.hid (Gg0_10.out.below hb)
  have Gh0_11 := Lib.hid (Gh0_10.out.below hb)
  clear hb HB10 hxGw0_0_10 hxGw0_1_10 hxGg0_0_10 hxGg0_1_10 hxGh0_0_10 hxGh0_1_10 Gw0_10 Gg0_10 Gh0_10
  go_wp2
  go_ret
  exact ⟨rfl, HB11.out⟩

namespace fnExactReadGrammar
open Go.ChangeShapes Go.WideShapes Go.ChangeAt Go.RowKit
open Go.ChangeMaps (open_string shut_string)
set_option maxRecDepth 100000 in
theorem lifted (os : Os) (started : os.Started) (H : Type) (enc : TypeId × Value → H) :
      ReturnsInHanded {} Tryd.checked os 7 .any (fun w args => (Rows.fnExactReadGrammarSpec.pre enc Tryd.prog Tryd.f7 Rows.fnExactReadGrammarRow.domain false w args ∧ laidMetH Tryd.prog Rows.fnExactReadGrammarRow.laid w) ∧ sizedMet enc Tryd.prog Tryd.f7 (OpenSpec.ofChange Rows.fnExactReadGrammarSpec) false w args) (Rows.fnExactReadGrammarSpec.post enc Tryd.prog Tryd.f7 false true false false) := by
  refine handed_and_shaped (C := Tryd.checked) (X := fun w _ => laidMetH Tryd.prog Rows.fnExactReadGrammarRow.laid w) (fun _ _ _ hh h => h.of_heap hh) Tryd.own started (by kernel_rfl) Tryd.func7
    (ChangeSpec.witness_shaped (enc := enc) (C := Tryd.checked) (os := os) (X := fun w _ => laidMetH Tryd.prog Rows.fnExactReadGrammarRow.laid w) false (World.laidAll Tryd.prog os Rows.fnExactReadGrammarRow.laid) #[.string ByteArray.empty] 8 (World.laidAll_os _ _ _)
      (World.shaped_of_ZipB (by kernel_rfl) (by kernel_rfl)) (by kernel_rfl) (by kernel_rfl) (by kernel_rfl)
      (by rw [MakeChecks.laidMetH_plain _ _ _ (by kernel_rfl)]; exact laidMet_laidAll _ (by kernel_rfl) (by kernel_rfl))) ?_
  intro W base args ds gs before hval0 hW hsh _
  have hval : ∀ (j : Nat) t v, Tryd.f7.params[j]? = some t → args[j]? = some v → Value.okWide Tryd.prog W .any base t v := hval0
  have hW' := hW
  obtain ⟨p, q, hA0, hV, rfl, hfz, hnd⟩ := hW
  have hA : DataW.TrodAll enc Tryd.prog W 0 (fun _ => true) true Tryd.f7.params.toList args.toList ds p := hA0
  rw [Tryd.params7] at hA hval
  obtain ⟨v0, vs0, d0, ds0, p0, q0, hargs, rfl, rfl, h0, r0⟩ := trodAll_cons hA
  obtain ⟨rfl, rfl, rfl⟩ := trodAll_nil r0
  obtain rfl : args = #[v0] := by cases args; simp_all
  obtain ⟨rfl, rfl⟩ := trodVars_none hV
  obtain ⟨a0, rfl, rfl, rfl, w0⟩ := open_string Tryd.underlying9 (hval 0 9 v0 rfl rfl) h0
  refine (fnExactReadGrammar_walk a0 w0 (w := W) (hML := MaxL.shaped hsh)).mono fun e W' ⟨he, hg⟩ => ?_
  subst he
  exact ⟨_, rfl, law_post Tryd.laidOut (by kernel_rfl) (by kernel_rfl) Tryd.underlying4 rfl rfl hW' hg⟩

theorem over : Rows.fnExactReadGrammarRow.holds Tryd.pinned (OpenSpec.ofChange Rows.fnExactReadGrammarSpec) :=
  OpenClaim.holds_of_wide 7 Tryd.f7 rfl rfl rfl rfl rfl rfl rfl ⟨rfl, rfl, rfl, rfl, rfl⟩ rfl rfl rfl rfl rfl (by kernel_rfl) Tryd.func7 (by kernel_rfl)
    (of_decide_eq_true (by kernel_rfl)) (by unfold Func.isWrapper; first | (rw [if_pos (by decide +kernel)]; kernel_rfl) | (rw [if_neg (by decide +kernel)]; exact ⟨rfl, rfl⟩))
    (fun os started H enc _ => lifted os started H enc)

theorem proved : Rows.FnExactReadGrammarCardSaid :=
  Claim7.holds_tied_plain_at .later [] [.data, .pinned] true (true, "af829414c15e4f64bc174ba6f0658db67e948a055b0501301af12220bb6dee4b") false over (fun _ h => by cases h) (by kernel_rfl) (fun _ h => by cases h) fnExactReadGrammar_row_tie rfl ⟨rfl, rfl⟩ (by kernel_rfl) rfl
    (fun f fn hf hfn => by
      obtain rfl : f = 7 := Option.some.inj ((show Tryd.prog.funcNamed "loop.example/g00911/laws.FnExactReadGrammar" = some 7 by kernel_rfl).symm.trans hf) |>.symm
      obtain rfl : fn = Tryd.f7 := (Option.some.inj (Tryd.func7.symm.trans hfn)).symm
      exact ⟨by kernel_rfl, fun j t ht => by
        rw [Tryd.params7] at ht
        have hm : t ∈ [9] := by simpa using Array.mem_of_getElem? ht
        have hall : ([9].all fun u => !Tryd.prog.wantsStandIn u) = true := by kernel_rfl
        exact (show Tryd.prog.wantsStandIn t = false by simpa using List.all_eq_true.1 hall t hm)⟩)
    (by kernel_rfl)
end fnExactReadGrammar

end Go.Proofs.YtgefgdkejenhnaaDoor
