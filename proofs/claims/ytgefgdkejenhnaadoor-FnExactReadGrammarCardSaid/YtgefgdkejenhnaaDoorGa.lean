/- Affixes: l04Letters, l04Affix, ValidAffix; cut, join, matches and what the reference has for them. Conditions: the readings; MaxLen's cell where the program asks strings.ReplaceAll. -/
import Derived.Test.YtgefgdkejenhnaaDoorG
import Derived.Test.YtgefgdkejenhnaaDoorU
import Derived.Test.YtgefgdkejenhnaaDoorW
import Derived.Test.YtgefgdkejenhnaaDoorFd
import Derived.Test.YtgefgdkejenhnaaDoorSh
import Derived.BigQuiet
import Derived.Deep.QuietTactic
namespace Go.Proofs.YtgefgdkejenhnaaDoor
open Go.RowKit
theorem drewN_twoG (w : World) (a b : Nat) : (w.drewN a).drewN b = w.drewN (a + b) := World.drewN_drewN w a b
theorem quiet_drew {P : Program} {f : FuncId} {args : Array Value} {w : World} {n : Nat} {v : Value}
    (h : Calls P f args (w.drewN n) fun e w' => e = .returned v ∧ ∃ q, w' = (w.drewN n).drewN q) : Calls P f args (w.drewN n) fun e w'' => e = .returned v ∧ ∃ m, w'' = w.drewN m :=
  h.mono fun _ _ ⟨he, q, hm⟩ => ⟨he, n + q, by rw [hm, drewN_twoG]⟩
/-- An affix in a box. -/
structure AffBox (w : World) (g : Nat) (x : AffD) : Prop where
  c0 : w.cell? ⟨g, 0, none⟩ = some (.string x.name)
  c1 : w.cell? ⟨g, 1, none⟩ = some (.bool x.front)
  c2 : w.cell? ⟨g, 2, none⟩ = some (.string x.cond)
  c3 : w.cell? ⟨g, 3, none⟩ = some (.string x.strip)
  c4 : w.cell? ⟨g, 4, none⟩ = some (.string x.add)
  l : AffLim x maxLen
theorem AffBox.below {w w' : World} {g x} (h : AffBox w g x) (hb : Below w.heap.size w w') : AffBox w' g x :=
  ⟨cell_below hb h.c0, cell_below hb h.c1, cell_below hb h.c2, cell_below hb h.c3, cell_below hb h.c4, h.l⟩
theorem AffBox.drewN {w : World} {g x} (h : AffBox w g x) (q : Nat) : AffBox (w.drewN q) g x := h.below (below_drewN (Below.refl _ _) q)
theorem AffR.box {w : World} {v : Value} {x : AffD} (h : AffR w v x) (t : TypeId) : AffBox (w.alloc (.cells #[.string x.name, .bool x.front, .string x.cond, .string x.strip, .string x.add] t)) w.heap.size x :=
  ⟨cell_newi w _ t 0 _ rfl, cell_newi w _ t 1 _ rfl, cell_newi w _ t 2 _ rfl, cell_newi w _ t 3 _ rfl, cell_newi w _ t 4 _ rfl, h.2⟩
theorem AffBox.read {w : World} {g x} (h : AffBox w g x) : AffR w (.agg #[.string x.name, .bool x.front, .string x.cond, .string x.strip, .string x.add]) x := ⟨rfl, h.l⟩
/-- At most four letters, or letters and periods. -/
def letB (l : List UInt8) (d : Bool) : Bool := l.all fun c => smallI c.toNat || (d && decide (c = 46))
def lettersB (s : ByteArray) (d : Bool) : Bool := letB s.data.toList d && decide (s.size ≤ 4)
def affB (x : AffD) : Bool := isName x.name && lettersB x.cond true && lettersB x.strip false && lettersB x.add false && !decide (x.strip = x.add)
theorem letB_false (l : List UInt8) : letB l false = smallAll l := by simp [letB, smallAll]
theorem letB_true (l : List UInt8) : letB l true = wildAll l := by simp [letB, wildAll]
theorem all_false_at {f : UInt8 → Bool} {s : ByteArray} {k : Nat} (hk : k < s.size) (h : f s[k] = false) : s.data.toList.all f = false := all_of_take f s k hk h
theorem affB_parts {x : AffD} (h : affB x = true) : isName x.name = true ∧ lettersB x.cond true = true ∧ lettersB x.strip false = true ∧ lettersB x.add false = true ∧ x.strip ≠ x.add := by
  simp only [affB, Bool.and_eq_true, Bool.not_eq_true', decide_eq_false_iff_not] at h
  exact ⟨h.1.1.1.1, h.1.1.1.2, h.1.1.2, h.1.2, h.2⟩
theorem lettersB_le {s : ByteArray} {d : Bool} (h : lettersB s d = true) : s.size ≤ 4 := by
  simp only [lettersB, Bool.and_eq_true, decide_eq_true_eq] at h; exact h.2
theorem letB_step {s : ByteArray} {d : Bool} {k : Nat} (hk : k < s.size) (h : letB (s.data.toList.take k) d = true) (h2 : (smallI s[k].toNat || (d && decide (s[k] = 46))) = true) : letB (s.data.toList.take (k + 1)) d = true := by
  unfold letB at h ⊢
  rw [all_take_succ _ s k hk, h, h2]; rfl
theorem letB_stop {s : ByteArray} {d : Bool} {k : Nat} (hk : k < s.size) (h2 : (smallI s[k].toNat || (d && decide (s[k] = 46))) = false) : false = lettersB s d := by
  unfold lettersB letB
  rw [all_of_take _ s k hk h2]; rfl
theorem letB_end {s : ByteArray} {d : Bool} {k : Nat} (hk : k ≤ s.size) (hn : ¬ k < s.size) (h : letB (s.data.toList.take k) d = true) : decide ((s.size : Int) ≤ 4) = lettersB s d := by
  obtain rfl : k = s.size := by omega
  rw [take_all] at h
  rw [lettersB, h, Bool.true_and]
  exact decide_eq_decide.2 (by omega)
theorem is46 {b : UInt8} (h : ((b.toNat : Int) == 46) = true) : b = 46 := by
  have := eq_of_beq h
  apply UInt8.toNat_inj.1
  show b.toNat = 46
  omega
theorem not46 {b : UInt8} (h : ((b.toNat : Int) == 46) = false) : b ≠ 46 := by
  rintro rfl
  exact absurd h (by decide)
set_option maxHeartbeats 1000000 in
theorem l04Letters_false (s : ByteArray) (w : World) (hs : s.size ≤ maxLen) :
    Calls Tryd.prog 97 #[.string s, .bool false] w fun e w' => e = .returned (.bool (lettersB s false)) ∧ w = w' := by
  unfold maxLen at hs
  go_enter Tryd.func97, Tryd.ntmps97
  go_wp2
  go_loopw [5] (fun i wr => ∃ k : Nat, k ≤ s.size ∧ i = .int .i64 (k : Int) ∧ Hid (letB (s.data.toList.take k) false = true) ∧ wr = w) (fun i _ => s.size - (intOf i).toNat)
  case atStart => exact ⟨0, by omega, rfl, Lib.hid rfl, rfl⟩
  case round =>
    obtain ⟨k, hk, rfl, Hl, rfl⟩ := hrel
    by_cases hlt : k < s.size
    · have hltI : (k : Int) < (s.size : Int) := by omega
      have hq := l01Small_any s[k].toNat wr
      cases hsm : smallI s[k].toNat
      · have Hsm := Lib.hid hsm
        simp only [hsm] at hq
        go_wp2_with fail
        refine hq.mono ?_
        rintro e w1 ⟨rfl, rfl⟩
        go_wp2
        go_ret
        exact ⟨ret_bool (letB_stop hlt (by rw [Hsm.out]; rfl)), rfl⟩
      · have Hsm := Lib.hid hsm
        simp only [hsm] at hq
        go_wp2_with fail
        refine hq.mono ?_
        rintro e w1 ⟨rfl, rfl⟩
        go_wp2
        go_roundw
        case rel => exact ⟨k + 1, by omega, by go_num, Lib.hid (letB_step hlt Hl.out (by rw [Hsm.out]; rfl)), trivial⟩
        case measure => simp [intOf]; omega
    · go_wp2
      go_ret
      exact ⟨ret_bool (letB_end hk hlt Hl.out), rfl⟩
set_option maxHeartbeats 1000000 in
theorem l04Letters_true (s : ByteArray) (w : World) (hs : s.size ≤ maxLen) :
    Calls Tryd.prog 97 #[.string s, .bool true] w fun e w' => e = .returned (.bool (lettersB s true)) ∧ w = w' := by
  unfold maxLen at hs
  go_enter Tryd.func97, Tryd.ntmps97
  go_wp2
  go_loopw [5] (fun i wr => ∃ k : Nat, k ≤ s.size ∧ i = .int .i64 (k : Int) ∧ Hid (letB (s.data.toList.take k) true = true) ∧ wr = w) (fun i _ => s.size - (intOf i).toNat)
  case atStart => exact ⟨0, by omega, rfl, Lib.hid rfl, rfl⟩
  case round =>
    obtain ⟨k, hk, rfl, Hl, rfl⟩ := hrel
    by_cases hlt : k < s.size
    · have hltI : (k : Int) < (s.size : Int) := by omega
      have hq := l01Small_any s[k].toNat wr
      cases hsm : smallI s[k].toNat
      · have Hsm := Lib.hid hsm
        simp only [hsm] at hq
        cases hd : (((s[k].toNat : Int)) == 46)
        · have Hd := Lib.hid (not46 hd)
          have hd2 : ((s[k].toNat : Int) != 46) = true := by rw [bne, hd]; rfl
          go_wp2_with fail
          refine hq.mono ?_
          rintro e w1 ⟨rfl, rfl⟩
          go_wp2
          go_ret
          exact ⟨ret_bool (letB_stop hlt (by rw [Hsm.out, decide_eq_false Hd.out]; rfl)), rfl⟩
        · have Hd := Lib.hid (is46 hd)
          have hd2 : ((s[k].toNat : Int) != 46) = false := by rw [bne, hd]; rfl
          go_wp2_with fail
          refine hq.mono ?_
          rintro e w1 ⟨rfl, rfl⟩
          go_wp2
          go_roundw
          case rel => exact ⟨k + 1, by omega, by go_num, Lib.hid (letB_step hlt Hl.out (by rw [decide_eq_true Hd.out, Bool.and_true, Bool.or_true])), trivial⟩
          case measure => simp [intOf]; omega
      · have Hsm := Lib.hid hsm
        simp only [hsm] at hq
        go_wp2_with fail
        refine hq.mono ?_
        rintro e w1 ⟨rfl, rfl⟩
        go_wp2
        go_roundw
        case rel => exact ⟨k + 1, by omega, by go_num, Lib.hid (letB_step hlt Hl.out (by rw [Hsm.out]; rfl)), trivial⟩
        case measure => simp [intOf]; omega
    · go_wp2
      go_ret
      exact ⟨ret_bool (letB_end hk hlt Hl.out), rfl⟩
theorem l04Letters_any {s : ByteArray} {d b : Bool} (hs : s.size ≤ maxLen) (hb : lettersB s d = b) (w : World) :
    Calls Tryd.prog 97 #[.string s, .bool d] w fun e w' => e = .returned (.bool b) ∧ w = w' := by
  subst hb
  cases d
  · exact l04Letters_false s w hs
  · exact l04Letters_true s w hs
theorem specIsName_is {s : ByteArray} {b : Bool} (hs : s.size ≤ maxLen) (hb : isName s = b) (w : World) :
    Calls Tryd.prog 96 #[.string s] w fun e w' => e = .returned (.bool b) ∧ w = w' := by
  subst hb; exact specIsName_any s w hs
attribute [local irreducible] Calls lettersB isName
set_option maxHeartbeats 4000000 in
set_option maxRecDepth 20000 in
theorem l04Affix_any (g : Nat) (x : AffD) (w : World) (hx : AffBox w g x) :
    Calls Tryd.prog 70 #[.pointer (some ⟨g, 0, none⟩)] w fun e w' => e = .returned (.bool (affB x)) ∧ ∃ q, w' = w.drewN q := by
  obtain ⟨c0, c1, c2, c3, c4, l0, l2, l3, l4⟩ := hx
  cases hN : isName x.name
  · have HN := Lib.hid hN
    go_enter Tryd.func70, Tryd.ntmps70
    go_wp2
    go_quiet ((first | (go_at_call 96; exact quiet_eq (specIsName_is l0 hN _)) | (go_at_call 97; first | fail)))
    go_wp2
    go_ret
    exact ⟨ret_bool (by rw [affB, HN.out]; rfl), nq, rfl⟩
  · have HN := Lib.hid hN
    cases hC : lettersB x.cond true
    · have HC := Lib.hid hC
      go_enter Tryd.func70, Tryd.ntmps70
      go_wp2
      go_quiet ((first | (go_at_call 96; exact quiet_eq (specIsName_is l0 hN _)) | (go_at_call 97; first | exact quiet_eq (l04Letters_any l2 hC _))))
      go_wp2
      go_ret
      exact ⟨ret_bool (by rw [affB, HN.out, HC.out]; rfl), nq, rfl⟩
    · have HC := Lib.hid hC
      cases hS : lettersB x.strip false
      · have HS := Lib.hid hS
        go_enter Tryd.func70, Tryd.ntmps70
        go_wp2
        go_quiet ((first | (go_at_call 96; exact quiet_eq (specIsName_is l0 hN _)) | (go_at_call 97; first | exact quiet_eq (l04Letters_any l2 hC _) | exact quiet_eq (l04Letters_any l3 hS _))))
        go_wp2
        go_ret
        exact ⟨ret_bool (by rw [affB, HN.out, HC.out, HS.out]; rfl), nq, rfl⟩
      · have HS := Lib.hid hS
        cases hA : lettersB x.add false
        · have HA := Lib.hid hA
          go_enter Tryd.func70, Tryd.ntmps70
          go_wp2
          go_quiet ((first | (go_at_call 96; exact quiet_eq (specIsName_is l0 hN _)) | (go_at_call 97; first | exact quiet_eq (l04Letters_any l2 hC _) | exact quiet_eq (l04Letters_any l3 hS _) | exact quiet_eq (l04Letters_any l4 hA _))))
          go_wp2
          go_ret
          exact ⟨ret_bool (by rw [affB, HN.out, HC.out, HS.out, HA.out]; rfl), nq, rfl⟩
        · have HA := Lib.hid hA
          cases hE : (x.strip.toList == x.add.toList)
          · have HE := Lib.hid (bytes_ne_of hE)
            have hE2 : (x.strip.toList != x.add.toList) = true := by rw [bne, hE]; rfl
            go_enter Tryd.func70, Tryd.ntmps70
            go_wp2
            go_quiet ((first | (go_at_call 96; exact quiet_eq (specIsName_is l0 hN _)) | (go_at_call 97; first | exact quiet_eq (l04Letters_any l2 hC _) | exact quiet_eq (l04Letters_any l3 hS _) | exact quiet_eq (l04Letters_any l4 hA _))))
            go_wp2
            go_ret
            exact ⟨ret_bool (by rw [affB, HN.out, HC.out, HS.out, HA.out, decide_eq_false HE.out]; rfl), nq, rfl⟩
          · have HE := Lib.hid (bytes_eq_of hE)
            have hE2 : (x.strip.toList != x.add.toList) = false := by rw [bne, hE]; rfl
            go_enter Tryd.func70, Tryd.ntmps70
            go_wp2
            go_quiet ((first | (go_at_call 96; exact quiet_eq (specIsName_is l0 hN _)) | (go_at_call 97; first | exact quiet_eq (l04Letters_any l2 hC _) | exact quiet_eq (l04Letters_any l3 hS _) | exact quiet_eq (l04Letters_any l4 hA _))))
            go_wp2
            go_ret
            exact ⟨ret_bool (by rw [affB, HN.out, HC.out, HS.out, HA.out, decide_eq_true HE.out]; rfl), nq, rfl⟩
theorem dots_any (s : ByteArray) (w : World) (hs : s.size ≤ 4) (hm : MaxL w) :
    Calls Tryd.prog 77 #[.string s, .string ⟨#[46]⟩, .string ⟨#[]⟩] w fun e w' => ∃ r : ByteArray, e = .returned (.string r) ∧ smallAll r.data.toList = wildAll s.data.toList ∧ r.size ≤ 4 ∧ Below w.heap.size w w' := by
  obtain ⟨m, hm⟩ := hm
  refine (Tryd.strings_ReplaceAll s ⟨#[46]⟩ ⟨#[]⟩ m w (by omega) hm (by decide) (by show s.size + _ * 0 ≤ _; omega)).mono ?_
  rintro e w' ⟨rfl, hb⟩
  refine ⟨_, rfl, dots_small _, ?_, hb⟩
  show (Lib.replaceAll s.data.toList [46] []).toArray.size ≤ 4
  rw [replaceAll_filter]
  have := List.length_filter_le (fun b : UInt8 => b != 46) s.data.toList
  rw [ba_sz] at this
  simp only [List.size_toArray]
  omega
theorem lettersB_F {s : ByteArray} (h : s.size ≤ 4) : lettersB s false = smallAll s.data.toList := by rw [lettersB, letB_false, decide_eq_true h, Bool.and_true]
theorem lettersB_T {s : ByteArray} (h : s.size ≤ 4) : lettersB s true = wildAll s.data.toList := by rw [lettersB, letB_true, decide_eq_true h, Bool.and_true]
theorem lettersB_big {s : ByteArray} {d : Bool} (h : ¬ s.size ≤ 4) : lettersB s d = false := by rw [lettersB, decide_eq_false h, Bool.and_false]
theorem affB_no1 {x : AffD} (h : isName x.name = false) : false = affB x := by rw [affB, h]; rfl
theorem affB_no2 {x : AffD} (h : lettersB x.cond true = false) : false = affB x := by rw [affB, h]; simp
theorem affB_no3 {x : AffD} (h : lettersB x.strip false = false) : false = affB x := by rw [affB, h]; simp
theorem affB_no4 {x : AffD} (h : lettersB x.add false = false) : false = affB x := by rw [affB, h]; simp
theorem affB_no5 {x : AffD} (h : x.strip = x.add) : false = affB x := by rw [affB, decide_eq_true h]; simp
theorem affB_yes {x : AffD} (h1 : isName x.name = true) (h2 : lettersB x.cond true = true) (h3 : lettersB x.strip false = true) (h4 : lettersB x.add false = true) (h5 : x.strip ≠ x.add) : true = affB x := by
  rw [affB, h1, h2, h3, h4, decide_eq_false h5]; rfl
set_option maxHeartbeats 4000000 in
theorem implValidAffix_any (v : Value) (x : AffD) (w : World) (hv : AffR w v x) (hm : MaxL w) :
    Calls Tryd.prog 34 #[v] w fun e w' => e = .returned (.bool (affB x)) ∧ Below w.heap.size w w' := by
  obtain rfl := hv.1
  have hb0 : Below w.heap.size w (w.alloc (.cells #[.string x.name, .bool x.front, .string x.cond, .string x.strip, .string x.add] 64)) := (Below.refl _ _).alloc (Nat.le_refl _) _
  have HM := Lib.hid (hm.below hb0)
  have c3 := (hv.box 64).c3
  have c4 := (hv.box 64).c4
  obtain ⟨-, l0, l2, l3, l4⟩ := hv
  have L0 := Lib.hid l0
  have L3 := Lib.hid l3
  have L4 := Lib.hid l4
  unfold maxLen at l0 l2 l3 l4
  clear hm
  cases hN : isName x.name
  · have HN := Lib.hid hN
    clear hN
    go_enter Tryd.func34, Tryd.ntmps34
    go_wp2_with fail
    refine (implIsName_any _ _ L0.out).mono ?_
    rw [HN.out]
    rintro e w1 ⟨rfl, rfl⟩
    go_wp2
    go_ret
    exact ⟨ret_bool (affB_no1 HN.out), hb0⟩
  · have HN := Lib.hid hN
    clear hN
    by_cases h2 : x.cond.size ≤ 4
    · by_cases h3 : x.strip.size ≤ 4
      · by_cases h4 : x.add.size ≤ 4
        · cases h5 : (x.strip.toList == x.add.toList)
          · have H5 := Lib.hid (bytes_ne_of h5)
            have H2 := Lib.hid h2
            have H3 := Lib.hid h3
            have H4 := Lib.hid h4
            go_enter Tryd.func34, Tryd.ntmps34
            go_wp2_with fail
            refine (implIsName_any _ _ L0.out).mono ?_
            rw [HN.out]
            rintro e w1 ⟨rfl, rfl⟩
            go_wp2_with fail
            refine (dots_any _ _ H2.out HM.out).mono ?_
            rintro e w2 ⟨r, rfl, hr, hr4, hb2⟩
            have HR := Lib.hid hr
            have hrm : r.size ≤ maxLen := by unfold maxLen; omega
            have HRM := Lib.hid hrm
            have hbb := hb0.trans (hb2.mono hb0.size)
            have d3 := cell_below hb2 c3
            have d4 := cell_below hb2 c4
            clear c3 c4 hb2 hr hb0 hrm
            go_wp2_with fail
            refine (onlySmall_any _ _ HRM.out).mono ?_
            rw [HR.out]
            cases hC : wildAll x.cond.data.toList
            · have HC := Lib.hid hC
              rintro e w3 ⟨rfl, hb3⟩
              have hbb3 := hbb.trans (hb3.mono hbb.size)
              clear hC
              go_wp2
              go_ret
              exact ⟨ret_bool (affB_no2 (by rw [lettersB_T H2.out, HC.out])), hbb3⟩
            · have HC := Lib.hid hC
              rintro e w3 ⟨rfl, hb3⟩
              have hbb3 := hbb.trans (hb3.mono hbb.size)
              have e3 := cell_below hb3 d3
              have e4 := cell_below hb3 d4
              clear hC d3 d4 hbb hb3
              cases hS : smallAll x.strip.data.toList
              all_goals
                have HS := Lib.hid hS
                clear hS
                go_wp2_with fail
                refine (onlySmall_any _ _ L3.out).mono ?_
                rw [HS.out]
                rintro e w4 ⟨rfl, hb4⟩
                have hbb4 := hbb3.trans (hb4.mono hbb3.size)
                have f4 := cell_below hb4 e4
                clear e3 e4 hb4 hbb3
              · go_wp2
                go_ret
                exact ⟨ret_bool (affB_no3 (by rw [lettersB_F H3.out, HS.out])), hbb4⟩
              · go_wp2_with fail
                refine (onlySmall_any _ _ L4.out).mono ?_
                cases hA : smallAll x.add.data.toList
                all_goals
                  have HA := Lib.hid hA
                  clear hA
                  rintro e w5 ⟨rfl, hb5⟩
                  have hbb5 := hbb4.trans (hb5.mono hbb4.size)
                  clear f4 hb5 hbb4
                  go_wp2
                  go_ret
                · exact ⟨ret_bool (affB_no4 (by rw [lettersB_F H4.out, HA.out])), hbb5⟩
                · exact ⟨ret_bool (affB_yes HN.out (by rw [lettersB_T H2.out, HC.out]) (by rw [lettersB_F H3.out, HS.out]) (by rw [lettersB_F H4.out, HA.out]) H5.out), hbb5⟩
          · have H5 := Lib.hid (bytes_eq_of h5)
            go_enter Tryd.func34, Tryd.ntmps34
            go_wp2_with fail
            refine (implIsName_any _ _ L0.out).mono ?_
            rw [HN.out]
            rintro e w1 ⟨rfl, rfl⟩
            go_wp2
            go_ret
            exact ⟨ret_bool (affB_no5 H5.out), hb0⟩
        · have H4 := Lib.hid h4
          go_enter Tryd.func34, Tryd.ntmps34
          go_wp2_with fail
          refine (implIsName_any _ _ L0.out).mono ?_
          rw [HN.out]
          rintro e w1 ⟨rfl, rfl⟩
          go_wp2
          go_ret
          exact ⟨ret_bool (affB_no4 (lettersB_big H4.out)), hb0⟩
      · have H3 := Lib.hid h3
        go_enter Tryd.func34, Tryd.ntmps34
        go_wp2_with fail
        refine (implIsName_any _ _ L0.out).mono ?_
        rw [HN.out]
        rintro e w1 ⟨rfl, rfl⟩
        go_wp2
        go_ret
        exact ⟨ret_bool (affB_no3 (lettersB_big H3.out)), hb0⟩
    · have H2 := Lib.hid h2
      go_enter Tryd.func34, Tryd.ntmps34
      go_wp2_with fail
      refine (implIsName_any _ _ L0.out).mono ?_
      rw [HN.out]
      rintro e w1 ⟨rfl, rfl⟩
      go_wp2
      go_ret
      exact ⟨ret_bool (affB_no2 (lettersB_big H2.out)), hb0⟩
end Go.Proofs.YtgefgdkejenhnaaDoor
