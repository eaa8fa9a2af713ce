/- ValidGrammar of the program: a set of names in a map. Condition: MaxLen's cell. -/
import Derived.Test.YtndfhmphlomeiaaGreatDoorK4
import Derived.Maps.OwnSet
import Derived.Maps.StringElems
import Derived.Deep.DeepCutAuto
set_option linter.unusedSimpArgs false
namespace Go.Proofs.YtndfhmphlomeiaaGreatDoor
open Go.RowKit
/-- What a set of names says of each name: it was among the first k. -/
def Seen (D : DataW Unit) (l : List AffD) (k : Nat) : Prop := ∀ s : ByteArray, D.atKey (.string s.data.toList) (.lit (.bool false)) = .lit (.bool (hasB (l.take k) s))
theorem plainElem_bool_inv {H : Type} {P : Program} {e : TypeId} (he : P.underlying e = some .bool) {v : Value} {z : DataW H × List MemPlace} (h : plainElem P e v = some z) : ∃ b, v = .bool b ∧ z = (.lit (.bool b), []) := by
  unfold plainElem at h
  rw [he] at h
  cases v <;> simp at h
  exact ⟨_, rfl, h.symm⟩
theorem hasB_take (l : List AffD) (k : Nat) (hk : k < l.length) (s : ByteArray) : hasB (l.take (k + 1)) s = (hasB (l.take k) s || decide (l[k].name = s)) := by
  unfold hasB
  rw [List.take_succ_eq_append_getElem hk, List.any_append]
  simp
theorem first_iff {l : List AffD} {k : Nat} (hk : k < l.length) : hasB (l.take k) l[k].name = false ↔ FirstAt l k hk := by
  unfold hasB FirstAt
  rw [List.any_eq_false]
  constructor
  · intro h i hi
    have := h (l[i]'(by omega)) (by rw [List.mem_take_iff_getElem]; exact ⟨i, by omega, rfl⟩)
    simpa using this
  · intro h y hy
    rw [List.mem_take_iff_getElem] at hy
    obtain ⟨i, hi, rfl⟩ := hy
    simpa using h i (by omega)
theorem Seen.put {D : DataW Unit} {l : List AffD} {k : Nat} (h : Seen D l k) (hD : Go.Maps.IsMap D) (hk : k < l.length) : Seen (D.put (.string l[k].name.data.toList) (.lit (.bool true))) l (k + 1) := by
  intro s
  rw [hasB_take l k hk]
  by_cases hs : s = l[k].name
  · rw [hs, Go.Maps.atKey_put_same hD (by trivial)]
    simp
  · have k2 : (Lit.string s.data.toList) ≠ Lit.string l[k].name.data.toList := fun e => hs (by injection e with e; exact ba_inj e)
    rw [Go.Maps.atKey_put_other k2, h s]
    rw [decide_eq_false (fun e => hs e.symm), Bool.or_false]
theorem zeroBool (w : World) : (zeroValue 4).run Tryz.prog w = .ok (.bool false) w := by kernel_rfl
theorem validStem_is {b : Bool} (v : Value) (x : GraD) (u : Value) (s : StemD) (w : World) (hv : GraR w v x) (hw : s.word.size ≤ maxLen) (hu : Strs w u s.uses) (hb : stemB x.affixes s = b) :
    Calls Tryz.prog 49 #[v, .agg #[.string s.word, u]] w fun e w' => e = .returned (.bool b) ∧ Below w.heap.size w w' := by
  subst hb; exact validStem_any v x u s w hv hw hu
/-- What the test of stem j says: true: the grammar is none; false: go on. -/
def StemStep (x : GraD) (j : Nat) (b : Bool) : Prop := (b = true → graB x = false) ∧ (b = false → (∀ i, i < j → (h : i < x.stems.length) → stemB x.affixes x.stems[i] = true) → IncTo (wordsOf x.stems) j → (∀ i, i < j + 1 → (h : i < x.stems.length) → stemB x.affixes x.stems[i] = true) ∧ IncTo (wordsOf x.stems) (j + 1))
theorem stemStep_bad {x : GraD} {j : Nat} (hlt : j < x.stems.length) (hv : stemB x.affixes x.stems[j] = false) : StemStep x j true :=
  ⟨(fun _ => graB_no fun h => by have := h.2.1.1 j hlt; rw [hv] at this; cases this), (fun h => by cases h)⟩
theorem stemStep_less {x : GraD} {j k : Nat} (hlt : j < x.stems.length) (hkl : k < x.stems.length) (hk : k + 1 = j) (hv : stemB x.affixes x.stems[j] = true) (hd : Op.bytesLess x.stems[k].word.toList x.stems[j].word.toList = true) : StemStep x j false := by
  subst hk
  refine ⟨(fun h => by cases h), fun _ h1 h2 => ⟨fun i hi h => ?_, ?_⟩⟩
  · rcases Nat.lt_succ_iff_lt_or_eq.1 hi with h3 | rfl
    · exact h1 i h3 h
    · exact hv
  · exact h2.succ (by rw [wordsOf_len]; exact hlt) (by rw [wordsOf_at, wordsOf_at]; exact hd)
theorem stemStep_not {x : GraD} {j k : Nat} (hlt : j < x.stems.length) (hkl : k < x.stems.length) (hk : k + 1 = j) (hd : Op.bytesLess x.stems[k].word.toList x.stems[j].word.toList = false) : StemStep x j true := by
  subst hk
  refine ⟨(fun _ => graB_no fun h => ?_), (fun h => by cases h)⟩
  have := h.2.1.2 k (by omega) (by rw [wordsOf_len]; exact hlt)
  rw [wordsOf_at, wordsOf_at, hd] at this
  cases this
theorem stemStep_first {x : GraD} {j : Nat} (_hlt : j < x.stems.length) (hj : j = 0) (hv : stemB x.affixes x.stems[j] = true) : StemStep x j false := by
  subst hj
  refine ⟨(fun h => by cases h), fun _ _ _ => ⟨fun i hi h => ?_, fun i h _ => by omega⟩⟩
  obtain rfl : i = 0 := by omega
  exact hv
attribute [local irreducible] Calls
set_option maxHeartbeats 8000000 in
set_option maxRecDepth 200000 in
theorem implValidGrammar_any (v : Value) (x : GraD) (w : World) (hv : GraR w v x) (hM : MaxL w) :
    Calls Tryz.prog 20 #[v] w fun e w' => e = .returned (.bool (graB x)) ∧ Below w.heap.size w w' := by
  have HV := Lib.hid hv
  have HM := Lib.hid hM
  have K : Go.Maps.Keyed Tryz.prog 9 := Go.Maps.string_keyed Tryz.underlying9
  have hmm := @run_makeMap Tryz.prog
  obtain ⟨s1, s2, rfl, ha, hs⟩ := hv
  obtain ⟨a1, c1, rfl, hl1, hk1, hcs1⟩ := ha.shape
  obtain ⟨a2, c2, rfl, hl2, hk2, hcs2⟩ := hs.shape
  unfold maxLen at hk1 hk2
  clear ha hs hM
  by_cases c12 : x.affixes.length ≤ 12
  case neg =>
    have d12 : decide ((12 : Int) < (x.affixes.length : Int)) = true := by rw [decide_eq_true_iff]; omega
    go_enter Tryz.func20, Tryz.ntmps20
    go_wp2
    go_ret
    exact ⟨ret_bool (graB_no fun h => c12 h.2.2.1).symm, (Below.refl _ _).alloc (Nat.le_refl _) _⟩
  by_cases c30 : x.stems.length ≤ 30
  case neg =>
    have d30 : decide ((30 : Int) < (x.stems.length : Int)) = true := by rw [decide_eq_true_iff]; omega
    go_enter Tryz.func20, Tryz.ntmps20
    go_wp2
    go_ret
    exact ⟨ret_bool (graB_no fun h => c30 h.2.2.2).symm, (Below.refl _ _).alloc (Nat.le_refl _) _⟩
  have d12 : decide ((12 : Int) < (x.affixes.length : Int)) = false := by rw [decide_eq_false_iff_not]; omega
  have d30 : decide ((30 : Int) < (x.stems.length : Int)) = false := by rw [decide_eq_false_iff_not]; omega
  have hm0 := World.ownsMap_made (H := Unit) (w.alloc (.cells #[.slice a1 x.affixes.length c1, .slice a2 x.stems.length c2] 27)) Tryz.prog 9 (plainElem Tryz.prog 4)
  have hz1 : (w.alloc (.cells #[.slice a1 x.affixes.length c1, .slice a2 x.stems.length c2] 27)).heap.size = w.heap.size + 1 := by simp
  rw [hz1] at hm0
  have HM0 := Lib.hid hm0
  clear hm0 hz1
  go_enter Tryz.func20, Tryz.ntmps20
  go_wp2
  go_loopw [22] (fun i wr => ∃ k : Nat, k ≤ x.affixes.length ∧ i = .int .i64 k ∧ (∀ i, i < k → (h : i < x.affixes.length) → affB x.affixes[i] = true ∧ FirstAt x.affixes i h) ∧
      (∃ D, wr.ownsMap Tryz.prog 9 (plainElem Tryz.prog 4) (w.heap.size + 1) k D ∧ Seen D x.affixes k) ∧
      wr.cell? ⟨w.heap.size, 0, none⟩ = some (.slice a1 x.affixes.length c1) ∧ wr.cell? ⟨w.heap.size, 1, none⟩ = some (.slice a2 x.stems.length c2) ∧ Below w.heap.size w wr) (fun i _ => x.affixes.length - (intOf i).toNat)
  case atStart => exact ⟨0, by omega, rfl, fun i hi => by omega, ⟨_, HM0.out, fun s => rfl⟩, (src_cell (heap_alloc2_old w _ _) rfl).1, (src_cell (heap_alloc2_old w _ _) rfl).1, ((Below.refl _ _).alloc (Nat.le_refl _) _).alloc (by simp) _⟩
  case round =>
    obtain ⟨k, hk, rfl, hall, ⟨D, hm, hseen⟩, g0, g1, hb⟩ := hrel
    have Hall := Lib.hid hall
    have Hseen := Lib.hid hseen
    have Hm := Lib.hid hm
    have HB := Lib.hid hb
    have hsz := hb.size
    have hltm := hm.lt
    clear hall hseen hm
    by_cases hlt : k < x.affixes.length
    · obtain ⟨b, off, rfl, e0, e1, e2, e3, e4, hlim⟩ := hcs1 k hlt
      have e0 := (hb.cell (cell_lt e0)).trans e0
      have e1 := (hb.cell (cell_lt e1)).trans e1
      have e2 := (hb.cell (cell_lt e2)).trans e2
      have e3 := (hb.cell (cell_lt e3)).trans e3
      have e4 := (hb.cell (cell_lt e4)).trans e4
      have hbn : Below wr.heap.size wr (wr.alloc (.cells #[.string x.affixes[k].name, .bool x.affixes[k].front, .string x.affixes[k].cond, .string x.affixes[k].strip, .string x.affixes[k].add] 51)) := (Below.refl _ _).alloc (Nat.le_refl _) _
      have HBn := Lib.hid hbn
      have Hlim := Lib.hid hlim
      clear hcs1 hb hbn hlim
      go_wp2_with fail
      refine (implValidAffix_any _ x.affixes[k] _ ⟨rfl, Hlim.out⟩ ((HM.out.below HB.out).below HBn.out)).mono ?_
      rintro e w2 ⟨rfl, hb2⟩
      have HB2 : Hid (Below wr.heap.size wr w2) := Lib.hid (HBn.out.trans (hb2.mono HBn.out.size))
      have g0 := cell_below HB2.out g0
      have g1 := cell_below HB2.out g1
      have f0 : w2.cell? ⟨wr.heap.size, 0, none⟩ = some (.string x.affixes[k].name) := cell_below hb2 (cell_newi wr _ _ 0 _ rfl)
      have hm2 : w2.ownsMap Tryz.prog 9 (plainElem Tryz.prog 4) (w.heap.size + 1) k D := Hm.out.kept (row := none) ⟨HB2.out.os, HB2.out.tape, HB2.out.output, HB2.out.size, fun j hj _ => HB2.out.block j hj⟩ (by simp)
      have hs2 := HB2.out.size
      clear hb2
      cases hA : affB x.affixes[k]
      · have HA := Lib.hid hA
        go_wp2
        go_ret
        refine ⟨ret_bool (graB_no fun h => ?_).symm, HB.out.trans (HB2.out.mono hsz)⟩
        have := (h.1 k hlt).1
        rw [HA.out] at this; cases this
      · have HA := Lib.hid hA
        obtain ⟨vb, ps, hlk, hvb⟩ := hm2.lookup K Tryz.underlying87 (z := .bool false) (zeroBool _) (plainElem_bool Tryz.underlying4 false) (Go.WideMaps.keyOf_string_mk Tryz.underlying9 (s := x.affixes[k].name) Hlim.out.n)
        obtain ⟨b2, rfl, hb2⟩ := plainElem_bool_inv Tryz.underlying4 hvb
        have hb3 := congrArg Prod.fst hb2
        simp only at hb3
        rw [Hseen.out] at hb3
        obtain ⟨w3, hup, hm3, hg3⟩ := hm2.update K Tryz.underlying87 (by unfold maxLen; omega) (Go.WideMaps.keyOf_string_mk Tryz.underlying9 (s := x.affixes[k].name) Hlim.out.n) (plainElem_bool Tryz.underlying4 true)
        have hbb : hasB (x.affixes.take k) x.affixes[k].name = b2 := by injection hb3 with h; injection h
        have Hm3 := Lib.hid hm3
        have Hg3 := Lib.hid hg3
        have Hbb := Lib.hid hbb
        have HD := Lib.hid hm2.isMap
        clear hvb hb2 hb3 hm2 hm3 hg3 hbb hA
        cases b2
        · have hz3 := Hg3.out.size
          go_wp2
          go_roundw
          case rel =>
            have q0 := Hg3.out.block w.heap.size (by omega) (by simp)
            exact ⟨k + 1, by omega, by go_num, fun i hi h => by
              rcases Nat.lt_succ_iff_lt_or_eq.1 hi with h2 | rfl
              · exact Hall.out i h2 h
              · exact ⟨HA.out, (first_iff hlt).1 Hbb.out⟩, ⟨_, Hm3.out, Hseen.out.put HD.out hlt⟩, by rw [← g0]; simp only [World.cell?, q0], by rw [← g1]; simp only [World.cell?, q0],
              ⟨Hg3.out.os.trans (HB2.out.os.trans HB.out.os), Hg3.out.tape.trans (HB2.out.tape.trans HB.out.tape), Hg3.out.output.trans (HB2.out.output.trans HB.out.output), by omega, fun i hi => (Hg3.out.block i (by omega) (by intro e; cases e; omega)).trans ((HB2.out.block i (by omega)).trans (HB.out.block i hi))⟩⟩
          case measure => simp [intOf]; omega
        · go_wp2
          go_ret
          refine ⟨ret_bool (graB_no fun h => ?_).symm, HB.out.trans (HB2.out.mono hsz)⟩
          have := (first_iff hlt).2 (h.1 k hlt).2
          rw [Hbb.out] at this; cases this
    · have hA : AffsOk x.affixes := fun i h => Hall.out i (by omega) h
      have HA := Lib.hid hA
      clear hA hcs1 Hall Hseen Hm hb hltm
      go_wp2
      obtain ⟨wo, rfl⟩ : ∃ wo : World, wo = wr := ⟨_, rfl⟩
      go_loopw [42] (fun i wr => ∃ j : Nat, j ≤ x.stems.length ∧ i = .int .i64 (j : Int) ∧ (∀ i, i < j → (h : i < x.stems.length) → stemB x.affixes x.stems[i] = true) ∧ IncTo (wordsOf x.stems) j ∧
          wr.cell? ⟨w.heap.size, 0, none⟩ = some (.slice a1 x.affixes.length c1) ∧ wr.cell? ⟨w.heap.size, 1, none⟩ = some (.slice a2 x.stems.length c2) ∧ Below w.heap.size w wr) (fun i _ => x.stems.length - (intOf i).toNat)
      case atStart => exact ⟨0, by omega, rfl, fun i h => by omega, fun i h => by omega, g0, g1, HB.out⟩
      case round =>
        clear g0 g1 HB hsz
        obtain ⟨j, hj, rfl, hall, hinc, g0, g1, hb⟩ := hrel
        have Hall := Lib.hid hall
        have Hinc := Lib.hid hinc
        have HB := Lib.hid hb
        have hsz := hb.size
        clear hall hinc
        by_cases hlt : j < x.stems.length
        · obtain ⟨b1, o1, u, rfl, e0, e1, e2, e3⟩ := hcs2 j hlt
          have E3 := Lib.hid e3
          obtain ⟨a3, c3, rfl, -⟩ := e3.shape
          have e0 := (hb.cell (cell_lt e0)).trans e0
          have e1 := (hb.cell (cell_lt e1)).trans e1
          have hbn : Below wr.heap.size wr (wr.alloc (.cells #[.string x.stems[j].word, .slice a3 x.stems[j].uses.length c3] 59)) := (Below.refl _ _).alloc (Nat.le_refl _) _
          have F0 := cell_below hbn g0
          have F1 := cell_below hbn g1
          have F2 : (wr.alloc (.cells #[.string x.stems[j].word, .slice a3 x.stems[j].uses.length c3] 59)).cell? ⟨wr.heap.size, 0, none⟩ = some (.string x.stems[j].word) := cell_newi wr _ _ 0 _ rfl
          have F3 : (wr.alloc (.cells #[.string x.stems[j].word, .slice a3 x.stems[j].uses.length c3] 59)).cell? ⟨wr.heap.size, 1, none⟩ = some (.slice a3 x.stems[j].uses.length c3) := cell_newi wr _ _ 1 _ rfl
          have HBW := Lib.hid (hb.trans (hbn.mono hsz))
          have HVW := Lib.hid (HV.out.below HBW.out)
          have HUW := Lib.hid (E3.out.below HBW.out)
          have Hws := Lib.hid e2
          have Hbn := Lib.hid hbn
          clear e2 e3 hbn
          clear E3 hb
          go_wp2_with fail
          go_cut [66] (fun s66 wx => ∃ b : Bool, s66 = .bool b ∧ Hid (StemStep x j b) ∧ wx.cell? ⟨w.heap.size, 0, none⟩ = some (.slice a1 x.affixes.length c1) ∧ wx.cell? ⟨w.heap.size, 1, none⟩ = some (.slice (some ⟨b1, o1, none⟩) x.stems.length c2) ∧ Below w.heap.size w wx)
          case first =>
            cases hv : stemB x.affixes x.stems[j]
            · have Hv := Lib.hid hv
              have Hno := Lib.hid (stemStep_bad (x := x) hlt hv)
              clear hcs2 hv
              refine wp_region_held_drew (S := (fun w' => w'.cell? ⟨w.heap.size, 0, none⟩ = some (.slice a1 x.affixes.length c1) ∧ w'.cell? ⟨w.heap.size, 1, none⟩ = some (.slice (some ⟨b1, o1, none⟩) x.stems.length c2) ∧ w'.cell? ⟨wr.heap.size, 0, none⟩ = some (.string x.stems[j].word) ∧ w'.cell? ⟨wr.heap.size, 1, none⟩ = some (.slice a3 x.stems[j].uses.length c3) ∧ Below (wr.alloc (.cells #[.string x.stems[j].word, .slice a3 x.stems[j].uses.length c3] 59)).heap.size (wr.alloc (.cells #[.string x.stems[j].word, .slice a3 x.stems[j].uses.length c3] 59)) w')) (by kernel_rfl) ?_ (fun hHeld => ?_)
              · exact ⟨F0, F1, F2, F3, (Below.refl _ _).drew⟩
              refine wpAnyH_take (i := 0) (v := ?v1) rfl (by kernel_rfl) (by kernel_rfl) (by kernel_rfl) (fun _ _ _ h => h) (Or.inl ⟨by kernel_rfl, ?hy1⟩) (by assumption) ?_
              case hy1 => (intro w9 hS9; (try dsimp only at hS9); go_simp; (try with_reducible rfl))
              try simp only [Act.put, List.getElem_toArray, List.getElem_cons_succ, List.getElem_cons_zero, List.setIfInBounds_toArray, List.set_cons_zero, List.set_cons_succ]
              refine wpAnyH_take (i := 1) (v := ?v2) rfl (by kernel_rfl) (by kernel_rfl) (by kernel_rfl) (fun _ _ _ h => h) (Or.inl ⟨by kernel_rfl, ?hy2⟩) (by assumption) ?_
              case hy2 => (intro w9 hS9; (try dsimp only at hS9); go_simp; (try with_reducible rfl))
              try simp only [Act.put, List.getElem_toArray, List.getElem_cons_succ, List.getElem_cons_zero, List.setIfInBounds_toArray, List.set_cons_zero, List.set_cons_succ]
              refine wpAnyH_ready (rs := [2]) (by kernel_rfl) (by simp) ?_
              refine AllReadyH.cons rfl (fun K9 hK9 => ?_) AllReadyH.nil
              rw [if_pos (by rfl)]
              go_wp2_with (go_at_call 49; refine (validStem_is _ x _ x.stems[j] _ ((fun (h : _ ∧ _ ∧ _ ∧ _ ∧ Below (wr.alloc (.cells #[.string x.stems[j].word, .slice a3 x.stems[j].uses.length c3] 59)).heap.size (wr.alloc (.cells #[.string x.stems[j].word, .slice a3 x.stems[j].uses.length c3] 59)) _) => HVW.out.below h.2.2.2.2) hHeld) Hws.out ((fun (h : _ ∧ _ ∧ _ ∧ _ ∧ Below (wr.alloc (.cells #[.string x.stems[j].word, .slice a3 x.stems[j].uses.length c3] 59)).heap.size (wr.alloc (.cells #[.string x.stems[j].word, .slice a3 x.stems[j].uses.length c3] 59)) _) => HUW.out.below h.2.2.2.2) hHeld) Hv.out).mono ?_; rintro e w2 ⟨rfl, hbk⟩)
              refine hK9.out _ _ (keepC hbk hHeld fun h => keepC hbk h fun h => keepC hbk h fun h => keepC hbk h fun h => keepE hbk h) (fun hHeld2 => ?_)
              clear hK9 K9
              try simp only [Act.put, List.getElem_toArray, List.getElem_cons_succ, List.getElem_cons_zero, List.setIfInBounds_toArray, List.set_cons_zero, List.set_cons_succ]
              refine wpAnyH_take (i := 3) (v := ?v3) rfl (by kernel_rfl) (by kernel_rfl) (by kernel_rfl) (fun _ _ _ h => h) (Or.inl ⟨by kernel_rfl, ?hy3⟩) (by assumption) ?_
              case hy3 => (intro w9 hS9; (try dsimp only at hS9); go_simp; (try with_reducible rfl))
              try simp only [Act.put, List.getElem_toArray, List.getElem_cons_succ, List.getElem_cons_zero, List.setIfInBounds_toArray, List.set_cons_zero, List.set_cons_succ]
              refine wpAnyH_take (i := 4) (v := ?v4) rfl (by kernel_rfl) (by kernel_rfl) (by kernel_rfl) (fun _ _ _ h => h) (Or.inl ⟨by kernel_rfl, ?hy4⟩) (by assumption) ?_
              case hy4 => (intro w9 hS9; (try dsimp only at hS9); go_simp; (try with_reducible rfl))
              try simp only [Act.put, List.getElem_toArray, List.getElem_cons_succ, List.getElem_cons_zero, List.setIfInBounds_toArray, List.set_cons_zero, List.set_cons_succ]
              refine wpAnyH_take (i := 5) (v := undef) rfl (by kernel_rfl) (by kernel_rfl) (by kernel_rfl) (fun _ _ _ h => h) (Or.inr ⟨by kernel_rfl, rfl⟩) (by assumption) ?_
              try simp only [Act.put, List.getElem_toArray, List.getElem_cons_succ, List.getElem_cons_zero, List.setIfInBounds_toArray, List.set_cons_zero, List.set_cons_succ]
              refine wpAnyH_take (i := 6) (v := undef) rfl (by kernel_rfl) (by kernel_rfl) (by kernel_rfl) (fun _ _ _ h => h) (Or.inr ⟨by kernel_rfl, rfl⟩) (by assumption) ?_
              try simp only [Act.put, List.getElem_toArray, List.getElem_cons_succ, List.getElem_cons_zero, List.setIfInBounds_toArray, List.set_cons_zero, List.set_cons_succ]
              refine wpAnyH_take (i := 7) (v := undef) rfl (by kernel_rfl) (by kernel_rfl) (by kernel_rfl) (fun _ _ _ h => h) (Or.inr ⟨by kernel_rfl, rfl⟩) (by assumption) ?_
              try simp only [Act.put, List.getElem_toArray, List.getElem_cons_succ, List.getElem_cons_zero, List.setIfInBounds_toArray, List.set_cons_zero, List.set_cons_succ]
              refine wpAnyH_take (i := 8) (v := undef) rfl (by kernel_rfl) (by kernel_rfl) (by kernel_rfl) (fun _ _ _ h => h) (Or.inr ⟨by kernel_rfl, rfl⟩) (by assumption) ?_
              try simp only [Act.put, List.getElem_toArray, List.getElem_cons_succ, List.getElem_cons_zero, List.setIfInBounds_toArray, List.set_cons_zero, List.set_cons_succ]
              refine wpAnyH_take (i := 9) (v := undef) rfl (by kernel_rfl) (by kernel_rfl) (by kernel_rfl) (fun _ _ _ h => h) (Or.inr ⟨by kernel_rfl, rfl⟩) (by assumption) ?_
              try simp only [Act.put, List.getElem_toArray, List.getElem_cons_succ, List.getElem_cons_zero, List.setIfInBounds_toArray, List.set_cons_zero, List.set_cons_succ]
              refine wpAnyH_take (i := 10) (v := undef) rfl (by kernel_rfl) (by kernel_rfl) (by kernel_rfl) (fun _ _ _ h => h) (Or.inr ⟨by kernel_rfl, rfl⟩) (by assumption) ?_
              try simp only [Act.put, List.getElem_toArray, List.getElem_cons_succ, List.getElem_cons_zero, List.setIfInBounds_toArray, List.set_cons_zero, List.set_cons_succ]
              refine wpAnyH_take (i := 11) (v := undef) rfl (by kernel_rfl) (by kernel_rfl) (by kernel_rfl) (fun _ _ _ h => h) (Or.inr ⟨by kernel_rfl, rfl⟩) (by assumption) ?_
              try simp only [Act.put, List.getElem_toArray, List.getElem_cons_succ, List.getElem_cons_zero, List.setIfInBounds_toArray, List.set_cons_zero, List.set_cons_succ]
              refine wpAnyH_take (i := 12) (v := undef) rfl (by kernel_rfl) (by kernel_rfl) (by kernel_rfl) (fun _ _ _ h => h) (Or.inr ⟨by kernel_rfl, rfl⟩) (by assumption) ?_
              try simp only [Act.put, List.getElem_toArray, List.getElem_cons_succ, List.getElem_cons_zero, List.setIfInBounds_toArray, List.set_cons_zero, List.set_cons_succ]
              refine wpAnyH_take (i := 13) (v := undef) rfl (by kernel_rfl) (by kernel_rfl) (by kernel_rfl) (fun _ _ _ h => h) (Or.inr ⟨by kernel_rfl, rfl⟩) (by assumption) ?_
              try simp only [Act.put, List.getElem_toArray, List.getElem_cons_succ, List.getElem_cons_zero, List.setIfInBounds_toArray, List.set_cons_zero, List.set_cons_succ]
              refine wpAnyH_take (i := 14) (v := undef) rfl (by kernel_rfl) (by kernel_rfl) (by kernel_rfl) (fun _ _ _ h => h) (Or.inr ⟨by kernel_rfl, rfl⟩) (by assumption) ?_
              try simp only [Act.put, List.getElem_toArray, List.getElem_cons_succ, List.getElem_cons_zero, List.setIfInBounds_toArray, List.set_cons_zero, List.set_cons_succ]
              refine wpAnyH_take (i := 15) (v := undef) rfl (by kernel_rfl) (by kernel_rfl) (by kernel_rfl) (fun _ _ _ h => h) (Or.inr ⟨by kernel_rfl, rfl⟩) (by assumption) ?_
              try simp only [Act.put, List.getElem_toArray, List.getElem_cons_succ, List.getElem_cons_zero, List.setIfInBounds_toArray, List.set_cons_zero, List.set_cons_succ]
              refine wpAnyH_take (i := 16) (v := undef) rfl (by kernel_rfl) (by kernel_rfl) (by kernel_rfl) (fun _ _ _ h => h) (Or.inr ⟨by kernel_rfl, rfl⟩) (by assumption) ?_
              try simp only [Act.put, List.getElem_toArray, List.getElem_cons_succ, List.getElem_cons_zero, List.setIfInBounds_toArray, List.set_cons_zero, List.set_cons_succ]
              refine wpAnyH_take (i := 17) (v := undef) rfl (by kernel_rfl) (by kernel_rfl) (by kernel_rfl) (fun _ _ _ h => h) (Or.inr ⟨by kernel_rfl, rfl⟩) (by assumption) ?_
              try simp only [Act.put, List.getElem_toArray, List.getElem_cons_succ, List.getElem_cons_zero, List.setIfInBounds_toArray, List.set_cons_zero, List.set_cons_succ]
              refine wpAnyH_take (i := 18) (v := undef) rfl (by kernel_rfl) (by kernel_rfl) (by kernel_rfl) (fun _ _ _ h => h) (Or.inr ⟨by kernel_rfl, rfl⟩) (by assumption) ?_
              try simp only [Act.put, List.getElem_toArray, List.getElem_cons_succ, List.getElem_cons_zero, List.setIfInBounds_toArray, List.set_cons_zero, List.set_cons_succ]
              refine wpAnyH_take (i := 19) (v := ?v5) rfl (by kernel_rfl) (by kernel_rfl) (by kernel_rfl) (fun _ _ _ h => h) (Or.inl ⟨by kernel_rfl, ?hy5⟩) (by assumption) ?_
              case hy5 => (intro w9 hS9; (try dsimp only at hS9); go_simp; (try with_reducible rfl))
              try simp only [Act.put, List.getElem_toArray, List.getElem_cons_succ, List.getElem_cons_zero, List.setIfInBounds_toArray, List.set_cons_zero, List.set_cons_succ]
              refine wpAnyH_done (by kernel_rfl) ?_ _
              have hb3 := (hHeld2 : _ ∧ _ ∧ _ ∧ _ ∧ Below (wr.alloc (.cells #[.string x.stems[j].word, .slice a3 x.stems[j].uses.length c3] 59)).heap.size (wr.alloc (.cells #[.string x.stems[j].word, .slice a3 x.stems[j].uses.length c3] 59)) w2).2.2.2.2
              have HB3 := Lib.hid (HBW.out.trans (hb3.mono HBW.out.size))
              have G0 := Lib.hid (cell_below hb3 F0)
              have G1 := Lib.hid (cell_below hb3 F1)
              clear hb3 hHeld2 hHeld
              go_wp2_with fail
              go_meet
              exact ⟨true, rfl, Hno, G0.out, G1.out, HB3.out⟩
            · have Hv := Lib.hid hv
              clear hv
              by_cases hp : 0 < j
              · have hkx : ∃ k, k + 1 = j := ⟨j - 1, by omega⟩
                obtain ⟨k, hkj⟩ := hkx
                obtain ⟨b2, o2, u2, he2, f0, -⟩ := hcs2 k (by omega)
                cases he2
                have hk0 : (0 : Int) ≤ (k : Int) := by omega
                have hk1 : (k : Int) < (x.stems.length : Int) := by omega
                have F4 := cell_below Hbn.out ((HB.out.cell (cell_lt f0)).trans f0)
                have hjk : (j : Int) = (k : Int) + 1 := by omega
                have hkl : k < x.stems.length := by omega
                have hwrap : IntKind.i64.wrap ((j : Int) - 1) = (k : Int) := by rw [hjk]; exact (IntWalk.i64_in _ (by omega)).trans (by omega)
                have hpd : decide (0 < j) = true := decide_eq_true hp
                have hpi : (0 : Int) < (j : Int) := by omega
                have Hkj := Lib.hid hkj
                clear hcs2 f0 hjk
                rcases bl_tri x.stems[k].word.toList x.stems[j].word.toList with ⟨hd2, hx1, -, hx2⟩ | ⟨hd2, hx1, -, -⟩ | ⟨hd2, hx1, hx2⟩
                · have Hgo := Lib.hid (stemStep_less (x := x) hlt hkl Hkj.out Hv.out hd2)
                  refine wp_region_held_drew (S := (fun w' => w'.cell? ⟨w.heap.size, 0, none⟩ = some (.slice a1 x.affixes.length c1) ∧ w'.cell? ⟨w.heap.size, 1, none⟩ = some (.slice (some ⟨b1, o1, none⟩) x.stems.length c2) ∧ w'.cell? ⟨wr.heap.size, 0, none⟩ = some (.string x.stems[j].word) ∧ w'.cell? ⟨wr.heap.size, 1, none⟩ = some (.slice a3 x.stems[j].uses.length c3) ∧ w'.cell? ⟨b1, o1 + k * 2, none⟩ = some (.string x.stems[k].word) ∧ Below (wr.alloc (.cells #[.string x.stems[j].word, .slice a3 x.stems[j].uses.length c3] 59)).heap.size (wr.alloc (.cells #[.string x.stems[j].word, .slice a3 x.stems[j].uses.length c3] 59)) w')) (by kernel_rfl) ?_ (fun hHeld => ?_)
                  · exact ⟨F0, F1, F2, F3, F4, (Below.refl _ _).drew⟩
                  refine wpAnyH_take (i := 0) (v := ?v6) rfl (by kernel_rfl) (by kernel_rfl) (by kernel_rfl) (fun _ _ _ h => h) (Or.inl ⟨by kernel_rfl, ?hy6⟩) (by assumption) ?_
                  case hy6 => (intro w9 hS9; (try dsimp only at hS9); go_simp; (try with_reducible rfl))
                  try simp only [Act.put, List.getElem_toArray, List.getElem_cons_succ, List.getElem_cons_zero, List.setIfInBounds_toArray, List.set_cons_zero, List.set_cons_succ]
                  refine wpAnyH_take (i := 1) (v := ?v7) rfl (by kernel_rfl) (by kernel_rfl) (by kernel_rfl) (fun _ _ _ h => h) (Or.inl ⟨by kernel_rfl, ?hy7⟩) (by assumption) ?_
                  case hy7 => (intro w9 hS9; (try dsimp only at hS9); go_simp; (try with_reducible rfl))
                  try simp only [Act.put, List.getElem_toArray, List.getElem_cons_succ, List.getElem_cons_zero, List.setIfInBounds_toArray, List.set_cons_zero, List.set_cons_succ]
                  refine wpAnyH_ready (rs := [2]) (by kernel_rfl) (by simp) ?_
                  refine AllReadyH.cons rfl (fun K9 hK9 => ?_) AllReadyH.nil
                  rw [if_pos (by rfl)]
                  go_wp2_with (go_at_call 49; refine (validStem_is _ x _ x.stems[j] _ ((fun (h : _ ∧ _ ∧ _ ∧ _ ∧ _ ∧ Below (wr.alloc (.cells #[.string x.stems[j].word, .slice a3 x.stems[j].uses.length c3] 59)).heap.size (wr.alloc (.cells #[.string x.stems[j].word, .slice a3 x.stems[j].uses.length c3] 59)) _) => HVW.out.below h.2.2.2.2.2) hHeld) Hws.out ((fun (h : _ ∧ _ ∧ _ ∧ _ ∧ _ ∧ Below (wr.alloc (.cells #[.string x.stems[j].word, .slice a3 x.stems[j].uses.length c3] 59)).heap.size (wr.alloc (.cells #[.string x.stems[j].word, .slice a3 x.stems[j].uses.length c3] 59)) _) => HUW.out.below h.2.2.2.2.2) hHeld) Hv.out).mono ?_; rintro e w2 ⟨rfl, hbk⟩)
                  refine hK9.out _ _ (keepC hbk hHeld fun h => keepC hbk h fun h => keepC hbk h fun h => keepC hbk h fun h => keepC hbk h fun h => keepE hbk h) (fun hHeld2 => ?_)
                  clear hK9 K9
                  try simp only [Act.put, List.getElem_toArray, List.getElem_cons_succ, List.getElem_cons_zero, List.setIfInBounds_toArray, List.set_cons_zero, List.set_cons_succ]
                  refine wpAnyH_take (i := 3) (v := ?v8) rfl (by kernel_rfl) (by kernel_rfl) (by kernel_rfl) (fun _ _ _ h => h) (Or.inl ⟨by kernel_rfl, ?hy8⟩) (by assumption) ?_
                  case hy8 => (intro w9 hS9; (try dsimp only at hS9); go_simp; (try with_reducible rfl))
                  try simp only [Act.put, List.getElem_toArray, List.getElem_cons_succ, List.getElem_cons_zero, List.setIfInBounds_toArray, List.set_cons_zero, List.set_cons_succ]
                  refine wpAnyH_take (i := 4) (v := ?v9) rfl (by kernel_rfl) (by kernel_rfl) (by kernel_rfl) (fun _ _ _ h => h) (Or.inl ⟨by kernel_rfl, ?hy9⟩) (by assumption) ?_
                  case hy9 => (intro w9 hS9; (try dsimp only at hS9); go_simp; (try with_reducible rfl))
                  try simp only [Act.put, List.getElem_toArray, List.getElem_cons_succ, List.getElem_cons_zero, List.setIfInBounds_toArray, List.set_cons_zero, List.set_cons_succ]
                  refine wpAnyH_take (i := 5) (v := ?v10) rfl (by kernel_rfl) (by kernel_rfl) (by kernel_rfl) (fun _ _ _ h => h) (Or.inl ⟨by kernel_rfl, ?hy10⟩) (by assumption) ?_
                  case hy10 => (intro w9 hS9; (try dsimp only at hS9); go_simp; (try with_reducible rfl))
                  try simp only [Act.put, List.getElem_toArray, List.getElem_cons_succ, List.getElem_cons_zero, List.setIfInBounds_toArray, List.set_cons_zero, List.set_cons_succ]
                  refine wpAnyH_take (i := 6) (v := ?v11) rfl (by kernel_rfl) (by kernel_rfl) (by kernel_rfl) (fun _ _ _ h => h) (Or.inl ⟨by kernel_rfl, ?hy11⟩) (by assumption) ?_
                  case hy11 => (intro w9 hS9; (try dsimp only at hS9); go_simp; (try with_reducible rfl))
                  try simp only [Act.put, List.getElem_toArray, List.getElem_cons_succ, List.getElem_cons_zero, List.setIfInBounds_toArray, List.set_cons_zero, List.set_cons_succ]
                  refine wpAnyH_take (i := 7) (v := ?v12) rfl (by kernel_rfl) (by kernel_rfl) (by kernel_rfl) (fun _ _ _ h => h) (Or.inl ⟨by kernel_rfl, ?hy12⟩) (by assumption) ?_
                  case hy12 => (intro w9 hS9; (try dsimp only at hS9); go_simp; (try with_reducible rfl))
                  try simp only [Act.put, List.getElem_toArray, List.getElem_cons_succ, List.getElem_cons_zero, List.setIfInBounds_toArray, List.set_cons_zero, List.set_cons_succ]
                  refine wpAnyH_take (i := 8) (v := ?v13) rfl (by kernel_rfl) (by kernel_rfl) (by kernel_rfl) (fun _ _ _ h => h) (Or.inl ⟨by kernel_rfl, ?hy13⟩) (by assumption) ?_
                  case hy13 => (intro w9 hS9; (try dsimp only at hS9); go_simp; (try with_reducible rfl))
                  try simp only [Act.put, List.getElem_toArray, List.getElem_cons_succ, List.getElem_cons_zero, List.setIfInBounds_toArray, List.set_cons_zero, List.set_cons_succ]
                  refine wpAnyH_take (i := 9) (v := ?v14) rfl (by kernel_rfl) (by kernel_rfl) (by kernel_rfl) (fun _ _ _ h => h) (Or.inl ⟨by kernel_rfl, ?hy14⟩) (by assumption) ?_
                  case hy14 => (intro w9 hS9; (try dsimp only at hS9); go_simp; (try with_reducible rfl))
                  try simp only [Act.put, List.getElem_toArray, List.getElem_cons_succ, List.getElem_cons_zero, List.setIfInBounds_toArray, List.set_cons_zero, List.set_cons_succ]
                  refine wpAnyH_take (i := 10) (v := ?v15) rfl (by kernel_rfl) (by kernel_rfl) (by kernel_rfl) (fun _ _ _ h => h) (Or.inl ⟨by kernel_rfl, ?hy15⟩) (by assumption) ?_
                  case hy15 => (intro w9 hS9; (try dsimp only at hS9); go_simp; (try with_reducible rfl))
                  try simp only [Act.put, List.getElem_toArray, List.getElem_cons_succ, List.getElem_cons_zero, List.setIfInBounds_toArray, List.set_cons_zero, List.set_cons_succ]
                  refine wpAnyH_take (i := 11) (v := ?v16) rfl (by kernel_rfl) (by kernel_rfl) (by kernel_rfl) (fun _ _ _ h => h) (Or.inl ⟨by kernel_rfl, ?hy16⟩) (by assumption) ?_
                  case hy16 => (intro w9 hS9; (try dsimp only at hS9); go_simp; (try with_reducible rfl))
                  try simp only [Act.put, List.getElem_toArray, List.getElem_cons_succ, List.getElem_cons_zero, List.setIfInBounds_toArray, List.set_cons_zero, List.set_cons_succ]
                  refine wpAnyH_take (i := 12) (v := ?v17) rfl (by kernel_rfl) (by kernel_rfl) (by kernel_rfl) (fun _ _ _ h => h) (Or.inl ⟨by kernel_rfl, ?hy17⟩) (by assumption) ?_
                  case hy17 => (intro w9 hS9; (try dsimp only at hS9); go_simp; (try with_reducible rfl))
                  try simp only [Act.put, List.getElem_toArray, List.getElem_cons_succ, List.getElem_cons_zero, List.setIfInBounds_toArray, List.set_cons_zero, List.set_cons_succ]
                  refine wpAnyH_take (i := 13) (v := ?v18) rfl (by kernel_rfl) (by kernel_rfl) (by kernel_rfl) (fun _ _ _ h => h) (Or.inl ⟨by kernel_rfl, ?hy18⟩) (by assumption) ?_
                  case hy18 => (intro w9 hS9; (try dsimp only at hS9); go_simp; (try with_reducible rfl))
                  try simp only [Act.put, List.getElem_toArray, List.getElem_cons_succ, List.getElem_cons_zero, List.setIfInBounds_toArray, List.set_cons_zero, List.set_cons_succ]
                  refine wpAnyH_take (i := 14) (v := ?v19) rfl (by kernel_rfl) (by kernel_rfl) (by kernel_rfl) (fun _ _ _ h => h) (Or.inl ⟨by kernel_rfl, ?hy19⟩) (by assumption) ?_
                  case hy19 => (intro w9 hS9; (try dsimp only at hS9); go_simp; (try with_reducible rfl))
                  try simp only [Act.put, List.getElem_toArray, List.getElem_cons_succ, List.getElem_cons_zero, List.setIfInBounds_toArray, List.set_cons_zero, List.set_cons_succ]
                  refine wpAnyH_take (i := 15) (v := ?v20) rfl (by kernel_rfl) (by kernel_rfl) (by kernel_rfl) (fun _ _ _ h => h) (Or.inl ⟨by kernel_rfl, ?hy20⟩) (by assumption) ?_
                  case hy20 => (intro w9 hS9; (try dsimp only at hS9); go_simp; (try with_reducible rfl))
                  try simp only [Act.put, List.getElem_toArray, List.getElem_cons_succ, List.getElem_cons_zero, List.setIfInBounds_toArray, List.set_cons_zero, List.set_cons_succ]
                  refine wpAnyH_take (i := 16) (v := ?v21) rfl (by kernel_rfl) (by kernel_rfl) (by kernel_rfl) (fun _ _ _ h => h) (Or.inl ⟨by kernel_rfl, ?hy21⟩) (by assumption) ?_
                  case hy21 => (intro w9 hS9; (try dsimp only at hS9); go_simp; (try with_reducible rfl))
                  try simp only [Act.put, List.getElem_toArray, List.getElem_cons_succ, List.getElem_cons_zero, List.setIfInBounds_toArray, List.set_cons_zero, List.set_cons_succ]
                  refine wpAnyH_take (i := 17) (v := ?v22) rfl (by kernel_rfl) (by kernel_rfl) (by kernel_rfl) (fun _ _ _ h => h) (Or.inl ⟨by kernel_rfl, ?hy22⟩) (by assumption) ?_
                  case hy22 => (intro w9 hS9; (try dsimp only at hS9); go_simp; (try with_reducible rfl))
                  try simp only [Act.put, List.getElem_toArray, List.getElem_cons_succ, List.getElem_cons_zero, List.setIfInBounds_toArray, List.set_cons_zero, List.set_cons_succ]
                  refine wpAnyH_take (i := 18) (v := ?v23) rfl (by kernel_rfl) (by kernel_rfl) (by kernel_rfl) (fun _ _ _ h => h) (Or.inl ⟨by kernel_rfl, ?hy23⟩) (by assumption) ?_
                  case hy23 => (intro w9 hS9; (try dsimp only at hS9); go_simp; (try with_reducible rfl))
                  try simp only [Act.put, List.getElem_toArray, List.getElem_cons_succ, List.getElem_cons_zero, List.setIfInBounds_toArray, List.set_cons_zero, List.set_cons_succ]
                  refine wpAnyH_take (i := 19) (v := ?v24) rfl (by kernel_rfl) (by kernel_rfl) (by kernel_rfl) (fun _ _ _ h => h) (Or.inl ⟨by kernel_rfl, ?hy24⟩) (by assumption) ?_
                  case hy24 => (intro w9 hS9; (try dsimp only at hS9); go_simp; (try with_reducible rfl))
                  try simp only [Act.put, List.getElem_toArray, List.getElem_cons_succ, List.getElem_cons_zero, List.setIfInBounds_toArray, List.set_cons_zero, List.set_cons_succ]
                  refine wpAnyH_done (by kernel_rfl) ?_ _
                  have hb3 := (hHeld2 : _ ∧ _ ∧ _ ∧ _ ∧ _ ∧ Below (wr.alloc (.cells #[.string x.stems[j].word, .slice a3 x.stems[j].uses.length c3] 59)).heap.size (wr.alloc (.cells #[.string x.stems[j].word, .slice a3 x.stems[j].uses.length c3] 59)) w2).2.2.2.2.2
                  have HB3 := Lib.hid (HBW.out.trans (hb3.mono HBW.out.size))
                  have G0 := Lib.hid (cell_below hb3 F0)
                  have G1 := Lib.hid (cell_below hb3 F1)
                  clear hb3 hHeld2 hHeld
                  go_wp2_with fail
                  go_meet
                  exact ⟨false, rfl, Hgo, G0.out, G1.out, HB3.out⟩
                · have Hgo := Lib.hid (stemStep_not (x := x) hlt hkl Hkj.out hd2)
                  refine wp_region_held_drew (S := (fun w' => w'.cell? ⟨w.heap.size, 0, none⟩ = some (.slice a1 x.affixes.length c1) ∧ w'.cell? ⟨w.heap.size, 1, none⟩ = some (.slice (some ⟨b1, o1, none⟩) x.stems.length c2) ∧ w'.cell? ⟨wr.heap.size, 0, none⟩ = some (.string x.stems[j].word) ∧ w'.cell? ⟨wr.heap.size, 1, none⟩ = some (.slice a3 x.stems[j].uses.length c3) ∧ w'.cell? ⟨b1, o1 + k * 2, none⟩ = some (.string x.stems[k].word) ∧ Below (wr.alloc (.cells #[.string x.stems[j].word, .slice a3 x.stems[j].uses.length c3] 59)).heap.size (wr.alloc (.cells #[.string x.stems[j].word, .slice a3 x.stems[j].uses.length c3] 59)) w')) (by kernel_rfl) ?_ (fun hHeld => ?_)
                  · exact ⟨F0, F1, F2, F3, F4, (Below.refl _ _).drew⟩
                  refine wpAnyH_take (i := 0) (v := ?v25) rfl (by kernel_rfl) (by kernel_rfl) (by kernel_rfl) (fun _ _ _ h => h) (Or.inl ⟨by kernel_rfl, ?hy25⟩) (by assumption) ?_
                  case hy25 => (intro w9 hS9; (try dsimp only at hS9); go_simp; (try with_reducible rfl))
                  try simp only [Act.put, List.getElem_toArray, List.getElem_cons_succ, List.getElem_cons_zero, List.setIfInBounds_toArray, List.set_cons_zero, List.set_cons_succ]
                  refine wpAnyH_take (i := 1) (v := ?v26) rfl (by kernel_rfl) (by kernel_rfl) (by kernel_rfl) (fun _ _ _ h => h) (Or.inl ⟨by kernel_rfl, ?hy26⟩) (by assumption) ?_
                  case hy26 => (intro w9 hS9; (try dsimp only at hS9); go_simp; (try with_reducible rfl))
                  try simp only [Act.put, List.getElem_toArray, List.getElem_cons_succ, List.getElem_cons_zero, List.setIfInBounds_toArray, List.set_cons_zero, List.set_cons_succ]
                  refine wpAnyH_ready (rs := [2]) (by kernel_rfl) (by simp) ?_
                  refine AllReadyH.cons rfl (fun K9 hK9 => ?_) AllReadyH.nil
                  rw [if_pos (by rfl)]
                  go_wp2_with (go_at_call 49; refine (validStem_is _ x _ x.stems[j] _ ((fun (h : _ ∧ _ ∧ _ ∧ _ ∧ _ ∧ Below (wr.alloc (.cells #[.string x.stems[j].word, .slice a3 x.stems[j].uses.length c3] 59)).heap.size (wr.alloc (.cells #[.string x.stems[j].word, .slice a3 x.stems[j].uses.length c3] 59)) _) => HVW.out.below h.2.2.2.2.2) hHeld) Hws.out ((fun (h : _ ∧ _ ∧ _ ∧ _ ∧ _ ∧ Below (wr.alloc (.cells #[.string x.stems[j].word, .slice a3 x.stems[j].uses.length c3] 59)).heap.size (wr.alloc (.cells #[.string x.stems[j].word, .slice a3 x.stems[j].uses.length c3] 59)) _) => HUW.out.below h.2.2.2.2.2) hHeld) Hv.out).mono ?_; rintro e w2 ⟨rfl, hbk⟩)
                  refine hK9.out _ _ (keepC hbk hHeld fun h => keepC hbk h fun h => keepC hbk h fun h => keepC hbk h fun h => keepC hbk h fun h => keepE hbk h) (fun hHeld2 => ?_)
                  clear hK9 K9
                  try simp only [Act.put, List.getElem_toArray, List.getElem_cons_succ, List.getElem_cons_zero, List.setIfInBounds_toArray, List.set_cons_zero, List.set_cons_succ]
                  refine wpAnyH_take (i := 3) (v := ?v27) rfl (by kernel_rfl) (by kernel_rfl) (by kernel_rfl) (fun _ _ _ h => h) (Or.inl ⟨by kernel_rfl, ?hy27⟩) (by assumption) ?_
                  case hy27 => (intro w9 hS9; (try dsimp only at hS9); go_simp; (try with_reducible rfl))
                  try simp only [Act.put, List.getElem_toArray, List.getElem_cons_succ, List.getElem_cons_zero, List.setIfInBounds_toArray, List.set_cons_zero, List.set_cons_succ]
                  refine wpAnyH_take (i := 4) (v := ?v28) rfl (by kernel_rfl) (by kernel_rfl) (by kernel_rfl) (fun _ _ _ h => h) (Or.inl ⟨by kernel_rfl, ?hy28⟩) (by assumption) ?_
                  case hy28 => (intro w9 hS9; (try dsimp only at hS9); go_simp; (try with_reducible rfl))
                  try simp only [Act.put, List.getElem_toArray, List.getElem_cons_succ, List.getElem_cons_zero, List.setIfInBounds_toArray, List.set_cons_zero, List.set_cons_succ]
                  refine wpAnyH_take (i := 5) (v := ?v29) rfl (by kernel_rfl) (by kernel_rfl) (by kernel_rfl) (fun _ _ _ h => h) (Or.inl ⟨by kernel_rfl, ?hy29⟩) (by assumption) ?_
                  case hy29 => (intro w9 hS9; (try dsimp only at hS9); go_simp; (try with_reducible rfl))
                  try simp only [Act.put, List.getElem_toArray, List.getElem_cons_succ, List.getElem_cons_zero, List.setIfInBounds_toArray, List.set_cons_zero, List.set_cons_succ]
                  refine wpAnyH_take (i := 6) (v := ?v30) rfl (by kernel_rfl) (by kernel_rfl) (by kernel_rfl) (fun _ _ _ h => h) (Or.inl ⟨by kernel_rfl, ?hy30⟩) (by assumption) ?_
                  case hy30 => (intro w9 hS9; (try dsimp only at hS9); go_simp; (try with_reducible rfl))
                  try simp only [Act.put, List.getElem_toArray, List.getElem_cons_succ, List.getElem_cons_zero, List.setIfInBounds_toArray, List.set_cons_zero, List.set_cons_succ]
                  refine wpAnyH_take (i := 7) (v := ?v31) rfl (by kernel_rfl) (by kernel_rfl) (by kernel_rfl) (fun _ _ _ h => h) (Or.inl ⟨by kernel_rfl, ?hy31⟩) (by assumption) ?_
                  case hy31 => (intro w9 hS9; (try dsimp only at hS9); go_simp; (try with_reducible rfl))
                  try simp only [Act.put, List.getElem_toArray, List.getElem_cons_succ, List.getElem_cons_zero, List.setIfInBounds_toArray, List.set_cons_zero, List.set_cons_succ]
                  refine wpAnyH_take (i := 8) (v := ?v32) rfl (by kernel_rfl) (by kernel_rfl) (by kernel_rfl) (fun _ _ _ h => h) (Or.inl ⟨by kernel_rfl, ?hy32⟩) (by assumption) ?_
                  case hy32 => (intro w9 hS9; (try dsimp only at hS9); go_simp; (try with_reducible rfl))
                  try simp only [Act.put, List.getElem_toArray, List.getElem_cons_succ, List.getElem_cons_zero, List.setIfInBounds_toArray, List.set_cons_zero, List.set_cons_succ]
                  refine wpAnyH_take (i := 9) (v := ?v33) rfl (by kernel_rfl) (by kernel_rfl) (by kernel_rfl) (fun _ _ _ h => h) (Or.inl ⟨by kernel_rfl, ?hy33⟩) (by assumption) ?_
                  case hy33 => (intro w9 hS9; (try dsimp only at hS9); go_simp; (try with_reducible rfl))
                  try simp only [Act.put, List.getElem_toArray, List.getElem_cons_succ, List.getElem_cons_zero, List.setIfInBounds_toArray, List.set_cons_zero, List.set_cons_succ]
                  refine wpAnyH_take (i := 10) (v := ?v34) rfl (by kernel_rfl) (by kernel_rfl) (by kernel_rfl) (fun _ _ _ h => h) (Or.inl ⟨by kernel_rfl, ?hy34⟩) (by assumption) ?_
                  case hy34 => (intro w9 hS9; (try dsimp only at hS9); go_simp; (try with_reducible rfl))
                  try simp only [Act.put, List.getElem_toArray, List.getElem_cons_succ, List.getElem_cons_zero, List.setIfInBounds_toArray, List.set_cons_zero, List.set_cons_succ]
                  refine wpAnyH_take (i := 11) (v := ?v35) rfl (by kernel_rfl) (by kernel_rfl) (by kernel_rfl) (fun _ _ _ h => h) (Or.inl ⟨by kernel_rfl, ?hy35⟩) (by assumption) ?_
                  case hy35 => (intro w9 hS9; (try dsimp only at hS9); go_simp; (try with_reducible rfl))
                  try simp only [Act.put, List.getElem_toArray, List.getElem_cons_succ, List.getElem_cons_zero, List.setIfInBounds_toArray, List.set_cons_zero, List.set_cons_succ]
                  refine wpAnyH_take (i := 12) (v := ?v36) rfl (by kernel_rfl) (by kernel_rfl) (by kernel_rfl) (fun _ _ _ h => h) (Or.inl ⟨by kernel_rfl, ?hy36⟩) (by assumption) ?_
                  case hy36 => (intro w9 hS9; (try dsimp only at hS9); go_simp; (try with_reducible rfl))
                  try simp only [Act.put, List.getElem_toArray, List.getElem_cons_succ, List.getElem_cons_zero, List.setIfInBounds_toArray, List.set_cons_zero, List.set_cons_succ]
                  refine wpAnyH_take (i := 13) (v := ?v37) rfl (by kernel_rfl) (by kernel_rfl) (by kernel_rfl) (fun _ _ _ h => h) (Or.inl ⟨by kernel_rfl, ?hy37⟩) (by assumption) ?_
                  case hy37 => (intro w9 hS9; (try dsimp only at hS9); go_simp; (try with_reducible rfl))
                  try simp only [Act.put, List.getElem_toArray, List.getElem_cons_succ, List.getElem_cons_zero, List.setIfInBounds_toArray, List.set_cons_zero, List.set_cons_succ]
                  refine wpAnyH_take (i := 14) (v := ?v38) rfl (by kernel_rfl) (by kernel_rfl) (by kernel_rfl) (fun _ _ _ h => h) (Or.inl ⟨by kernel_rfl, ?hy38⟩) (by assumption) ?_
                  case hy38 => (intro w9 hS9; (try dsimp only at hS9); go_simp; (try with_reducible rfl))
                  try simp only [Act.put, List.getElem_toArray, List.getElem_cons_succ, List.getElem_cons_zero, List.setIfInBounds_toArray, List.set_cons_zero, List.set_cons_succ]
                  refine wpAnyH_take (i := 15) (v := ?v39) rfl (by kernel_rfl) (by kernel_rfl) (by kernel_rfl) (fun _ _ _ h => h) (Or.inl ⟨by kernel_rfl, ?hy39⟩) (by assumption) ?_
                  case hy39 => (intro w9 hS9; (try dsimp only at hS9); go_simp; (try with_reducible rfl))
                  try simp only [Act.put, List.getElem_toArray, List.getElem_cons_succ, List.getElem_cons_zero, List.setIfInBounds_toArray, List.set_cons_zero, List.set_cons_succ]
                  refine wpAnyH_take (i := 16) (v := ?v40) rfl (by kernel_rfl) (by kernel_rfl) (by kernel_rfl) (fun _ _ _ h => h) (Or.inl ⟨by kernel_rfl, ?hy40⟩) (by assumption) ?_
                  case hy40 => (intro w9 hS9; (try dsimp only at hS9); go_simp; (try with_reducible rfl))
                  try simp only [Act.put, List.getElem_toArray, List.getElem_cons_succ, List.getElem_cons_zero, List.setIfInBounds_toArray, List.set_cons_zero, List.set_cons_succ]
                  refine wpAnyH_take (i := 17) (v := ?v41) rfl (by kernel_rfl) (by kernel_rfl) (by kernel_rfl) (fun _ _ _ h => h) (Or.inl ⟨by kernel_rfl, ?hy41⟩) (by assumption) ?_
                  case hy41 => (intro w9 hS9; (try dsimp only at hS9); go_simp; (try with_reducible rfl))
                  try simp only [Act.put, List.getElem_toArray, List.getElem_cons_succ, List.getElem_cons_zero, List.setIfInBounds_toArray, List.set_cons_zero, List.set_cons_succ]
                  refine wpAnyH_take (i := 18) (v := ?v42) rfl (by kernel_rfl) (by kernel_rfl) (by kernel_rfl) (fun _ _ _ h => h) (Or.inl ⟨by kernel_rfl, ?hy42⟩) (by assumption) ?_
                  case hy42 => (intro w9 hS9; (try dsimp only at hS9); go_simp; (try with_reducible rfl))
                  try simp only [Act.put, List.getElem_toArray, List.getElem_cons_succ, List.getElem_cons_zero, List.setIfInBounds_toArray, List.set_cons_zero, List.set_cons_succ]
                  refine wpAnyH_take (i := 19) (v := ?v43) rfl (by kernel_rfl) (by kernel_rfl) (by kernel_rfl) (fun _ _ _ h => h) (Or.inl ⟨by kernel_rfl, ?hy43⟩) (by assumption) ?_
                  case hy43 => (intro w9 hS9; (try dsimp only at hS9); go_simp; (try with_reducible rfl))
                  try simp only [Act.put, List.getElem_toArray, List.getElem_cons_succ, List.getElem_cons_zero, List.setIfInBounds_toArray, List.set_cons_zero, List.set_cons_succ]
                  refine wpAnyH_done (by kernel_rfl) ?_ _
                  have hb3 := (hHeld2 : _ ∧ _ ∧ _ ∧ _ ∧ _ ∧ Below (wr.alloc (.cells #[.string x.stems[j].word, .slice a3 x.stems[j].uses.length c3] 59)).heap.size (wr.alloc (.cells #[.string x.stems[j].word, .slice a3 x.stems[j].uses.length c3] 59)) w2).2.2.2.2.2
                  have HB3 := Lib.hid (HBW.out.trans (hb3.mono HBW.out.size))
                  have G0 := Lib.hid (cell_below hb3 F0)
                  have G1 := Lib.hid (cell_below hb3 F1)
                  clear hb3 hHeld2 hHeld
                  go_wp2_with fail
                  go_meet
                  exact ⟨true, rfl, Hgo, G0.out, G1.out, HB3.out⟩
                · have Hgo := Lib.hid (stemStep_not (x := x) hlt hkl Hkj.out hd2)
                  have hx3 : (x.stems[j].word.toList == x.stems[k].word.toList) = true := by rw [hx2]; exact beq_self_eq_true _
                  clear hx2
                  refine wp_region_held_drew (S := (fun w' => w'.cell? ⟨w.heap.size, 0, none⟩ = some (.slice a1 x.affixes.length c1) ∧ w'.cell? ⟨w.heap.size, 1, none⟩ = some (.slice (some ⟨b1, o1, none⟩) x.stems.length c2) ∧ w'.cell? ⟨wr.heap.size, 0, none⟩ = some (.string x.stems[j].word) ∧ w'.cell? ⟨wr.heap.size, 1, none⟩ = some (.slice a3 x.stems[j].uses.length c3) ∧ w'.cell? ⟨b1, o1 + k * 2, none⟩ = some (.string x.stems[k].word) ∧ Below (wr.alloc (.cells #[.string x.stems[j].word, .slice a3 x.stems[j].uses.length c3] 59)).heap.size (wr.alloc (.cells #[.string x.stems[j].word, .slice a3 x.stems[j].uses.length c3] 59)) w')) (by kernel_rfl) ?_ (fun hHeld => ?_)
                  · exact ⟨F0, F1, F2, F3, F4, (Below.refl _ _).drew⟩
                  refine wpAnyH_take (i := 0) (v := ?v44) rfl (by kernel_rfl) (by kernel_rfl) (by kernel_rfl) (fun _ _ _ h => h) (Or.inl ⟨by kernel_rfl, ?hy44⟩) (by assumption) ?_
                  case hy44 => (intro w9 hS9; (try dsimp only at hS9); go_simp; (try with_reducible rfl))
                  try simp only [Act.put, List.getElem_toArray, List.getElem_cons_succ, List.getElem_cons_zero, List.setIfInBounds_toArray, List.set_cons_zero, List.set_cons_succ]
                  refine wpAnyH_take (i := 1) (v := ?v45) rfl (by kernel_rfl) (by kernel_rfl) (by kernel_rfl) (fun _ _ _ h => h) (Or.inl ⟨by kernel_rfl, ?hy45⟩) (by assumption) ?_
                  case hy45 => (intro w9 hS9; (try dsimp only at hS9); go_simp; (try with_reducible rfl))
                  try simp only [Act.put, List.getElem_toArray, List.getElem_cons_succ, List.getElem_cons_zero, List.setIfInBounds_toArray, List.set_cons_zero, List.set_cons_succ]
                  refine wpAnyH_ready (rs := [2]) (by kernel_rfl) (by simp) ?_
                  refine AllReadyH.cons rfl (fun K9 hK9 => ?_) AllReadyH.nil
                  rw [if_pos (by rfl)]
                  go_wp2_with (go_at_call 49; refine (validStem_is _ x _ x.stems[j] _ ((fun (h : _ ∧ _ ∧ _ ∧ _ ∧ _ ∧ Below (wr.alloc (.cells #[.string x.stems[j].word, .slice a3 x.stems[j].uses.length c3] 59)).heap.size (wr.alloc (.cells #[.string x.stems[j].word, .slice a3 x.stems[j].uses.length c3] 59)) _) => HVW.out.below h.2.2.2.2.2) hHeld) Hws.out ((fun (h : _ ∧ _ ∧ _ ∧ _ ∧ _ ∧ Below (wr.alloc (.cells #[.string x.stems[j].word, .slice a3 x.stems[j].uses.length c3] 59)).heap.size (wr.alloc (.cells #[.string x.stems[j].word, .slice a3 x.stems[j].uses.length c3] 59)) _) => HUW.out.below h.2.2.2.2.2) hHeld) Hv.out).mono ?_; rintro e w2 ⟨rfl, hbk⟩)
                  refine hK9.out _ _ (keepC hbk hHeld fun h => keepC hbk h fun h => keepC hbk h fun h => keepC hbk h fun h => keepC hbk h fun h => keepE hbk h) (fun hHeld2 => ?_)
                  clear hK9 K9
                  try simp only [Act.put, List.getElem_toArray, List.getElem_cons_succ, List.getElem_cons_zero, List.setIfInBounds_toArray, List.set_cons_zero, List.set_cons_succ]
                  refine wpAnyH_take (i := 3) (v := ?v46) rfl (by kernel_rfl) (by kernel_rfl) (by kernel_rfl) (fun _ _ _ h => h) (Or.inl ⟨by kernel_rfl, ?hy46⟩) (by assumption) ?_
                  case hy46 => (intro w9 hS9; (try dsimp only at hS9); go_simp; (try with_reducible rfl))
                  try simp only [Act.put, List.getElem_toArray, List.getElem_cons_succ, List.getElem_cons_zero, List.setIfInBounds_toArray, List.set_cons_zero, List.set_cons_succ]
                  refine wpAnyH_take (i := 4) (v := ?v47) rfl (by kernel_rfl) (by kernel_rfl) (by kernel_rfl) (fun _ _ _ h => h) (Or.inl ⟨by kernel_rfl, ?hy47⟩) (by assumption) ?_
                  case hy47 => (intro w9 hS9; (try dsimp only at hS9); go_simp; (try with_reducible rfl))
                  try simp only [Act.put, List.getElem_toArray, List.getElem_cons_succ, List.getElem_cons_zero, List.setIfInBounds_toArray, List.set_cons_zero, List.set_cons_succ]
                  refine wpAnyH_take (i := 5) (v := ?v48) rfl (by kernel_rfl) (by kernel_rfl) (by kernel_rfl) (fun _ _ _ h => h) (Or.inl ⟨by kernel_rfl, ?hy48⟩) (by assumption) ?_
                  case hy48 => (intro w9 hS9; (try dsimp only at hS9); go_simp; (try with_reducible rfl))
                  try simp only [Act.put, List.getElem_toArray, List.getElem_cons_succ, List.getElem_cons_zero, List.setIfInBounds_toArray, List.set_cons_zero, List.set_cons_succ]
                  refine wpAnyH_take (i := 6) (v := ?v49) rfl (by kernel_rfl) (by kernel_rfl) (by kernel_rfl) (fun _ _ _ h => h) (Or.inl ⟨by kernel_rfl, ?hy49⟩) (by assumption) ?_
                  case hy49 => (intro w9 hS9; (try dsimp only at hS9); go_simp; (try with_reducible rfl))
                  try simp only [Act.put, List.getElem_toArray, List.getElem_cons_succ, List.getElem_cons_zero, List.setIfInBounds_toArray, List.set_cons_zero, List.set_cons_succ]
                  refine wpAnyH_take (i := 7) (v := ?v50) rfl (by kernel_rfl) (by kernel_rfl) (by kernel_rfl) (fun _ _ _ h => h) (Or.inl ⟨by kernel_rfl, ?hy50⟩) (by assumption) ?_
                  case hy50 => (intro w9 hS9; (try dsimp only at hS9); go_simp; (try with_reducible rfl))
                  try simp only [Act.put, List.getElem_toArray, List.getElem_cons_succ, List.getElem_cons_zero, List.setIfInBounds_toArray, List.set_cons_zero, List.set_cons_succ]
                  refine wpAnyH_take (i := 8) (v := ?v51) rfl (by kernel_rfl) (by kernel_rfl) (by kernel_rfl) (fun _ _ _ h => h) (Or.inl ⟨by kernel_rfl, ?hy51⟩) (by assumption) ?_
                  case hy51 => (intro w9 hS9; (try dsimp only at hS9); go_simp; (try with_reducible rfl))
                  try simp only [Act.put, List.getElem_toArray, List.getElem_cons_succ, List.getElem_cons_zero, List.setIfInBounds_toArray, List.set_cons_zero, List.set_cons_succ]
                  refine wpAnyH_take (i := 9) (v := ?v52) rfl (by kernel_rfl) (by kernel_rfl) (by kernel_rfl) (fun _ _ _ h => h) (Or.inl ⟨by kernel_rfl, ?hy52⟩) (by assumption) ?_
                  case hy52 => (intro w9 hS9; (try dsimp only at hS9); go_simp; (try with_reducible rfl))
                  try simp only [Act.put, List.getElem_toArray, List.getElem_cons_succ, List.getElem_cons_zero, List.setIfInBounds_toArray, List.set_cons_zero, List.set_cons_succ]
                  refine wpAnyH_take (i := 10) (v := ?v53) rfl (by kernel_rfl) (by kernel_rfl) (by kernel_rfl) (fun _ _ _ h => h) (Or.inl ⟨by kernel_rfl, ?hy53⟩) (by assumption) ?_
                  case hy53 => (intro w9 hS9; (try dsimp only at hS9); go_simp; (try with_reducible rfl))
                  try simp only [Act.put, List.getElem_toArray, List.getElem_cons_succ, List.getElem_cons_zero, List.setIfInBounds_toArray, List.set_cons_zero, List.set_cons_succ]
                  refine wpAnyH_take (i := 11) (v := ?v54) rfl (by kernel_rfl) (by kernel_rfl) (by kernel_rfl) (fun _ _ _ h => h) (Or.inl ⟨by kernel_rfl, ?hy54⟩) (by assumption) ?_
                  case hy54 => (intro w9 hS9; (try dsimp only at hS9); go_simp; (try with_reducible rfl))
                  try simp only [Act.put, List.getElem_toArray, List.getElem_cons_succ, List.getElem_cons_zero, List.setIfInBounds_toArray, List.set_cons_zero, List.set_cons_succ]
                  refine wpAnyH_take (i := 12) (v := ?v55) rfl (by kernel_rfl) (by kernel_rfl) (by kernel_rfl) (fun _ _ _ h => h) (Or.inl ⟨by kernel_rfl, ?hy55⟩) (by assumption) ?_
                  case hy55 => (intro w9 hS9; (try dsimp only at hS9); go_simp; (try with_reducible rfl))
                  try simp only [Act.put, List.getElem_toArray, List.getElem_cons_succ, List.getElem_cons_zero, List.setIfInBounds_toArray, List.set_cons_zero, List.set_cons_succ]
                  refine wpAnyH_take (i := 13) (v := ?v56) rfl (by kernel_rfl) (by kernel_rfl) (by kernel_rfl) (fun _ _ _ h => h) (Or.inl ⟨by kernel_rfl, ?hy56⟩) (by assumption) ?_
                  case hy56 => (intro w9 hS9; (try dsimp only at hS9); go_simp; (try with_reducible rfl))
                  try simp only [Act.put, List.getElem_toArray, List.getElem_cons_succ, List.getElem_cons_zero, List.setIfInBounds_toArray, List.set_cons_zero, List.set_cons_succ]
                  refine wpAnyH_take (i := 14) (v := ?v57) rfl (by kernel_rfl) (by kernel_rfl) (by kernel_rfl) (fun _ _ _ h => h) (Or.inl ⟨by kernel_rfl, ?hy57⟩) (by assumption) ?_
                  case hy57 => (intro w9 hS9; (try dsimp only at hS9); go_simp; (try with_reducible rfl))
                  try simp only [Act.put, List.getElem_toArray, List.getElem_cons_succ, List.getElem_cons_zero, List.setIfInBounds_toArray, List.set_cons_zero, List.set_cons_succ]
                  refine wpAnyH_take (i := 15) (v := ?v58) rfl (by kernel_rfl) (by kernel_rfl) (by kernel_rfl) (fun _ _ _ h => h) (Or.inl ⟨by kernel_rfl, ?hy58⟩) (by assumption) ?_
                  case hy58 => (intro w9 hS9; (try dsimp only at hS9); go_simp; (try with_reducible rfl))
                  try simp only [Act.put, List.getElem_toArray, List.getElem_cons_succ, List.getElem_cons_zero, List.setIfInBounds_toArray, List.set_cons_zero, List.set_cons_succ]
                  refine wpAnyH_take (i := 16) (v := ?v59) rfl (by kernel_rfl) (by kernel_rfl) (by kernel_rfl) (fun _ _ _ h => h) (Or.inl ⟨by kernel_rfl, ?hy59⟩) (by assumption) ?_
                  case hy59 => (intro w9 hS9; (try dsimp only at hS9); go_simp; (try with_reducible rfl))
                  try simp only [Act.put, List.getElem_toArray, List.getElem_cons_succ, List.getElem_cons_zero, List.setIfInBounds_toArray, List.set_cons_zero, List.set_cons_succ]
                  refine wpAnyH_take (i := 17) (v := ?v60) rfl (by kernel_rfl) (by kernel_rfl) (by kernel_rfl) (fun _ _ _ h => h) (Or.inl ⟨by kernel_rfl, ?hy60⟩) (by assumption) ?_
                  case hy60 => (intro w9 hS9; (try dsimp only at hS9); go_simp; (try with_reducible rfl))
                  try simp only [Act.put, List.getElem_toArray, List.getElem_cons_succ, List.getElem_cons_zero, List.setIfInBounds_toArray, List.set_cons_zero, List.set_cons_succ]
                  refine wpAnyH_take (i := 18) (v := ?v61) rfl (by kernel_rfl) (by kernel_rfl) (by kernel_rfl) (fun _ _ _ h => h) (Or.inl ⟨by kernel_rfl, ?hy61⟩) (by assumption) ?_
                  case hy61 => (intro w9 hS9; (try dsimp only at hS9); go_simp; (try with_reducible rfl))
                  try simp only [Act.put, List.getElem_toArray, List.getElem_cons_succ, List.getElem_cons_zero, List.setIfInBounds_toArray, List.set_cons_zero, List.set_cons_succ]
                  refine wpAnyH_take (i := 19) (v := ?v62) rfl (by kernel_rfl) (by kernel_rfl) (by kernel_rfl) (fun _ _ _ h => h) (Or.inl ⟨by kernel_rfl, ?hy62⟩) (by assumption) ?_
                  case hy62 => (intro w9 hS9; (try dsimp only at hS9); go_simp; (try with_reducible rfl))
                  try simp only [Act.put, List.getElem_toArray, List.getElem_cons_succ, List.getElem_cons_zero, List.setIfInBounds_toArray, List.set_cons_zero, List.set_cons_succ]
                  refine wpAnyH_done (by kernel_rfl) ?_ _
                  have hb3 := (hHeld2 : _ ∧ _ ∧ _ ∧ _ ∧ _ ∧ Below (wr.alloc (.cells #[.string x.stems[j].word, .slice a3 x.stems[j].uses.length c3] 59)).heap.size (wr.alloc (.cells #[.string x.stems[j].word, .slice a3 x.stems[j].uses.length c3] 59)) w2).2.2.2.2.2
                  have HB3 := Lib.hid (HBW.out.trans (hb3.mono HBW.out.size))
                  have G0 := Lib.hid (cell_below hb3 F0)
                  have G1 := Lib.hid (cell_below hb3 F1)
                  clear hb3 hHeld2 hHeld
                  go_wp2_with fail
                  go_meet
                  exact ⟨true, rfl, Hgo, G0.out, G1.out, HB3.out⟩
              · have hd0 : decide (0 < j) = false := by rw [decide_eq_false_iff_not]; omega
                have hpi : ¬ (0 : Int) < (j : Int) := by omega
                have Hgo := Lib.hid (stemStep_first (x := x) hlt (by omega) Hv.out)
                clear hcs2 hp
                refine wp_region_held_drew (S := (fun w' => w'.cell? ⟨w.heap.size, 0, none⟩ = some (.slice a1 x.affixes.length c1) ∧ w'.cell? ⟨w.heap.size, 1, none⟩ = some (.slice (some ⟨b1, o1, none⟩) x.stems.length c2) ∧ w'.cell? ⟨wr.heap.size, 0, none⟩ = some (.string x.stems[j].word) ∧ w'.cell? ⟨wr.heap.size, 1, none⟩ = some (.slice a3 x.stems[j].uses.length c3) ∧ Below (wr.alloc (.cells #[.string x.stems[j].word, .slice a3 x.stems[j].uses.length c3] 59)).heap.size (wr.alloc (.cells #[.string x.stems[j].word, .slice a3 x.stems[j].uses.length c3] 59)) w')) (by kernel_rfl) ?_ (fun hHeld => ?_)
                · exact ⟨F0, F1, F2, F3, (Below.refl _ _).drew⟩
                refine wpAnyH_take (i := 0) (v := ?v63) rfl (by kernel_rfl) (by kernel_rfl) (by kernel_rfl) (fun _ _ _ h => h) (Or.inl ⟨by kernel_rfl, ?hy63⟩) (by assumption) ?_
                case hy63 => (intro w9 hS9; (try dsimp only at hS9); go_simp; (try with_reducible rfl))
                try simp only [Act.put, List.getElem_toArray, List.getElem_cons_succ, List.getElem_cons_zero, List.setIfInBounds_toArray, List.set_cons_zero, List.set_cons_succ]
                refine wpAnyH_take (i := 1) (v := ?v64) rfl (by kernel_rfl) (by kernel_rfl) (by kernel_rfl) (fun _ _ _ h => h) (Or.inl ⟨by kernel_rfl, ?hy64⟩) (by assumption) ?_
                case hy64 => (intro w9 hS9; (try dsimp only at hS9); go_simp; (try with_reducible rfl))
                try simp only [Act.put, List.getElem_toArray, List.getElem_cons_succ, List.getElem_cons_zero, List.setIfInBounds_toArray, List.set_cons_zero, List.set_cons_succ]
                refine wpAnyH_ready (rs := [2]) (by kernel_rfl) (by simp) ?_
                refine AllReadyH.cons rfl (fun K9 hK9 => ?_) AllReadyH.nil
                rw [if_pos (by rfl)]
                go_wp2_with (go_at_call 49; refine (validStem_is _ x _ x.stems[j] _ ((fun (h : _ ∧ _ ∧ _ ∧ _ ∧ Below (wr.alloc (.cells #[.string x.stems[j].word, .slice a3 x.stems[j].uses.length c3] 59)).heap.size (wr.alloc (.cells #[.string x.stems[j].word, .slice a3 x.stems[j].uses.length c3] 59)) _) => HVW.out.below h.2.2.2.2) hHeld) Hws.out ((fun (h : _ ∧ _ ∧ _ ∧ _ ∧ Below (wr.alloc (.cells #[.string x.stems[j].word, .slice a3 x.stems[j].uses.length c3] 59)).heap.size (wr.alloc (.cells #[.string x.stems[j].word, .slice a3 x.stems[j].uses.length c3] 59)) _) => HUW.out.below h.2.2.2.2) hHeld) Hv.out).mono ?_; rintro e w2 ⟨rfl, hbk⟩)
                refine hK9.out _ _ (keepC hbk hHeld fun h => keepC hbk h fun h => keepC hbk h fun h => keepC hbk h fun h => keepE hbk h) (fun hHeld2 => ?_)
                clear hK9 K9
                try simp only [Act.put, List.getElem_toArray, List.getElem_cons_succ, List.getElem_cons_zero, List.setIfInBounds_toArray, List.set_cons_zero, List.set_cons_succ]
                refine wpAnyH_take (i := 3) (v := ?v65) rfl (by kernel_rfl) (by kernel_rfl) (by kernel_rfl) (fun _ _ _ h => h) (Or.inl ⟨by kernel_rfl, ?hy65⟩) (by assumption) ?_
                case hy65 => (intro w9 hS9; (try dsimp only at hS9); go_simp; (try with_reducible rfl))
                try simp only [Act.put, List.getElem_toArray, List.getElem_cons_succ, List.getElem_cons_zero, List.setIfInBounds_toArray, List.set_cons_zero, List.set_cons_succ]
                refine wpAnyH_take (i := 4) (v := ?v66) rfl (by kernel_rfl) (by kernel_rfl) (by kernel_rfl) (fun _ _ _ h => h) (Or.inl ⟨by kernel_rfl, ?hy66⟩) (by assumption) ?_
                case hy66 => (intro w9 hS9; (try dsimp only at hS9); go_simp; (try with_reducible rfl))
                try simp only [Act.put, List.getElem_toArray, List.getElem_cons_succ, List.getElem_cons_zero, List.setIfInBounds_toArray, List.set_cons_zero, List.set_cons_succ]
                refine wpAnyH_take (i := 5) (v := ?v67) rfl (by kernel_rfl) (by kernel_rfl) (by kernel_rfl) (fun _ _ _ h => h) (Or.inl ⟨by kernel_rfl, ?hy67⟩) (by assumption) ?_
                case hy67 => (intro w9 hS9; (try dsimp only at hS9); go_simp; (try with_reducible rfl))
                try simp only [Act.put, List.getElem_toArray, List.getElem_cons_succ, List.getElem_cons_zero, List.setIfInBounds_toArray, List.set_cons_zero, List.set_cons_succ]
                refine wpAnyH_take (i := 6) (v := ?v68) rfl (by kernel_rfl) (by kernel_rfl) (by kernel_rfl) (fun _ _ _ h => h) (Or.inl ⟨by kernel_rfl, ?hy68⟩) (by assumption) ?_
                case hy68 => (intro w9 hS9; (try dsimp only at hS9); go_simp; (try with_reducible rfl))
                try simp only [Act.put, List.getElem_toArray, List.getElem_cons_succ, List.getElem_cons_zero, List.setIfInBounds_toArray, List.set_cons_zero, List.set_cons_succ]
                refine wpAnyH_take (i := 7) (v := ?v69) rfl (by kernel_rfl) (by kernel_rfl) (by kernel_rfl) (fun _ _ _ h => h) (Or.inl ⟨by kernel_rfl, ?hy69⟩) (by assumption) ?_
                case hy69 => (intro w9 hS9; (try dsimp only at hS9); go_simp; (try with_reducible rfl))
                try simp only [Act.put, List.getElem_toArray, List.getElem_cons_succ, List.getElem_cons_zero, List.setIfInBounds_toArray, List.set_cons_zero, List.set_cons_succ]
                refine wpAnyH_take (i := 8) (v := undef) rfl (by kernel_rfl) (by kernel_rfl) (by kernel_rfl) (fun _ _ _ h => h) (Or.inr ⟨by kernel_rfl, rfl⟩) (by assumption) ?_
                try simp only [Act.put, List.getElem_toArray, List.getElem_cons_succ, List.getElem_cons_zero, List.setIfInBounds_toArray, List.set_cons_zero, List.set_cons_succ]
                refine wpAnyH_take (i := 9) (v := undef) rfl (by kernel_rfl) (by kernel_rfl) (by kernel_rfl) (fun _ _ _ h => h) (Or.inr ⟨by kernel_rfl, rfl⟩) (by assumption) ?_
                try simp only [Act.put, List.getElem_toArray, List.getElem_cons_succ, List.getElem_cons_zero, List.setIfInBounds_toArray, List.set_cons_zero, List.set_cons_succ]
                refine wpAnyH_take (i := 10) (v := undef) rfl (by kernel_rfl) (by kernel_rfl) (by kernel_rfl) (fun _ _ _ h => h) (Or.inr ⟨by kernel_rfl, rfl⟩) (by assumption) ?_
                try simp only [Act.put, List.getElem_toArray, List.getElem_cons_succ, List.getElem_cons_zero, List.setIfInBounds_toArray, List.set_cons_zero, List.set_cons_succ]
                refine wpAnyH_take (i := 11) (v := undef) rfl (by kernel_rfl) (by kernel_rfl) (by kernel_rfl) (fun _ _ _ h => h) (Or.inr ⟨by kernel_rfl, rfl⟩) (by assumption) ?_
                try simp only [Act.put, List.getElem_toArray, List.getElem_cons_succ, List.getElem_cons_zero, List.setIfInBounds_toArray, List.set_cons_zero, List.set_cons_succ]
                refine wpAnyH_take (i := 12) (v := undef) rfl (by kernel_rfl) (by kernel_rfl) (by kernel_rfl) (fun _ _ _ h => h) (Or.inr ⟨by kernel_rfl, rfl⟩) (by assumption) ?_
                try simp only [Act.put, List.getElem_toArray, List.getElem_cons_succ, List.getElem_cons_zero, List.setIfInBounds_toArray, List.set_cons_zero, List.set_cons_succ]
                refine wpAnyH_take (i := 13) (v := undef) rfl (by kernel_rfl) (by kernel_rfl) (by kernel_rfl) (fun _ _ _ h => h) (Or.inr ⟨by kernel_rfl, rfl⟩) (by assumption) ?_
                try simp only [Act.put, List.getElem_toArray, List.getElem_cons_succ, List.getElem_cons_zero, List.setIfInBounds_toArray, List.set_cons_zero, List.set_cons_succ]
                refine wpAnyH_take (i := 14) (v := undef) rfl (by kernel_rfl) (by kernel_rfl) (by kernel_rfl) (fun _ _ _ h => h) (Or.inr ⟨by kernel_rfl, rfl⟩) (by assumption) ?_
                try simp only [Act.put, List.getElem_toArray, List.getElem_cons_succ, List.getElem_cons_zero, List.setIfInBounds_toArray, List.set_cons_zero, List.set_cons_succ]
                refine wpAnyH_take (i := 15) (v := undef) rfl (by kernel_rfl) (by kernel_rfl) (by kernel_rfl) (fun _ _ _ h => h) (Or.inr ⟨by kernel_rfl, rfl⟩) (by assumption) ?_
                try simp only [Act.put, List.getElem_toArray, List.getElem_cons_succ, List.getElem_cons_zero, List.setIfInBounds_toArray, List.set_cons_zero, List.set_cons_succ]
                refine wpAnyH_take (i := 16) (v := undef) rfl (by kernel_rfl) (by kernel_rfl) (by kernel_rfl) (fun _ _ _ h => h) (Or.inr ⟨by kernel_rfl, rfl⟩) (by assumption) ?_
                try simp only [Act.put, List.getElem_toArray, List.getElem_cons_succ, List.getElem_cons_zero, List.setIfInBounds_toArray, List.set_cons_zero, List.set_cons_succ]
                refine wpAnyH_take (i := 17) (v := undef) rfl (by kernel_rfl) (by kernel_rfl) (by kernel_rfl) (fun _ _ _ h => h) (Or.inr ⟨by kernel_rfl, rfl⟩) (by assumption) ?_
                try simp only [Act.put, List.getElem_toArray, List.getElem_cons_succ, List.getElem_cons_zero, List.setIfInBounds_toArray, List.set_cons_zero, List.set_cons_succ]
                refine wpAnyH_take (i := 18) (v := ?v70) rfl (by kernel_rfl) (by kernel_rfl) (by kernel_rfl) (fun _ _ _ h => h) (Or.inl ⟨by kernel_rfl, ?hy70⟩) (by assumption) ?_
                case hy70 => (intro w9 hS9; (try dsimp only at hS9); go_simp; (try with_reducible rfl))
                try simp only [Act.put, List.getElem_toArray, List.getElem_cons_succ, List.getElem_cons_zero, List.setIfInBounds_toArray, List.set_cons_zero, List.set_cons_succ]
                refine wpAnyH_take (i := 19) (v := ?v71) rfl (by kernel_rfl) (by kernel_rfl) (by kernel_rfl) (fun _ _ _ h => h) (Or.inl ⟨by kernel_rfl, ?hy71⟩) (by assumption) ?_
                case hy71 => (intro w9 hS9; (try dsimp only at hS9); go_simp; (try with_reducible rfl))
                try simp only [Act.put, List.getElem_toArray, List.getElem_cons_succ, List.getElem_cons_zero, List.setIfInBounds_toArray, List.set_cons_zero, List.set_cons_succ]
                refine wpAnyH_done (by kernel_rfl) ?_ _
                have hb3 := (hHeld2 : _ ∧ _ ∧ _ ∧ _ ∧ Below (wr.alloc (.cells #[.string x.stems[j].word, .slice a3 x.stems[j].uses.length c3] 59)).heap.size (wr.alloc (.cells #[.string x.stems[j].word, .slice a3 x.stems[j].uses.length c3] 59)) w2).2.2.2.2
                have HB3 := Lib.hid (HBW.out.trans (hb3.mono HBW.out.size))
                have G0 := Lib.hid (cell_below hb3 F0)
                have G1 := Lib.hid (cell_below hb3 F1)
                clear hb3 hHeld2 hHeld
                go_wp2_with fail
                go_meet
                exact ⟨false, rfl, Hgo, G0.out, G1.out, HB3.out⟩
          case rest =>
            obtain ⟨b, rfl, hst, G0, G1, hb3⟩ := hcut
            cases b
            · go_wp2
              go_roundw
              case rel => exact ⟨j + 1, by omega, by go_num, (hst.out.2 rfl Hall.out Hinc.out).1, (hst.out.2 rfl Hall.out Hinc.out).2, G0, G1, hb3⟩
              case measure => simp [intOf]; omega
            · go_wp2
              go_ret
              exact ⟨ret_bool (hst.out.1 rfl).symm, hb3⟩
        · have hAll : StemsOk x := ⟨fun i h => Hall.out i (by omega) h, fun i h1 h2 => Hinc.out i (by omega) h2⟩
          have HAll := Lib.hid hAll
          clear hAll hcs2 Hall Hinc
          go_wp2
          go_ret
          exact ⟨ret_bool (graB_yes ⟨HA.out, HAll.out, c12, c30⟩).symm, HB.out⟩
end Go.Proofs.YtndfhmphlomeiaaGreatDoor
