/- ValidGrammar of the reference. No condition but the readings. -/
import Derived.Test.YtndfhmphlomeiaaGreatDoorK0
namespace Go.Proofs.YtndfhmphlomeiaaGreatDoor
open Go.RowKit
/-- An affix that lies somewhere. -/
structure AffAt (w : World) (b o : Nat) (x : AffD) : Prop where
  c0 : w.cell? ⟨b, o, none⟩ = some (.string x.name)
  c1 : w.cell? ⟨b, o + 1, none⟩ = some (.bool x.front)
  c2 : w.cell? ⟨b, o + 2, none⟩ = some (.string x.cond)
  c3 : w.cell? ⟨b, o + 3, none⟩ = some (.string x.strip)
  c4 : w.cell? ⟨b, o + 4, none⟩ = some (.string x.add)
  l : AffLim x maxLen
attribute [local irreducible] Calls lettersB isName
set_option maxHeartbeats 4000000 in
set_option maxRecDepth 20000 in
theorem l04AffixAt_any (g o : Nat) (x : AffD) (w : World) (hx : AffAt w g o x) :
    Calls Tryz.prog 59 #[.pointer (some ⟨g, o, none⟩)] w fun e w' => e = .returned (.bool (affB x)) ∧ ∃ q, w' = w.drewN q := by
  obtain ⟨c0, c1, c2, c3, c4, l0, l2, l3, l4⟩ := hx
  cases hN : isName x.name
  · have HN := Lib.hid hN
    go_enter Tryz.func59, Tryz.ntmps59
    go_wp2
    go_quiet ((first | (go_at_call 81; exact quiet_eq (specIsName_is l0 hN _)) | (go_at_call 82; first | fail)))
    go_wp2
    go_ret
    exact ⟨ret_bool (by rw [affB, HN.out]; rfl), nq, rfl⟩
  · have HN := Lib.hid hN
    cases hC : lettersB x.cond true
    · have HC := Lib.hid hC
      go_enter Tryz.func59, Tryz.ntmps59
      go_wp2
      go_quiet ((first | (go_at_call 81; exact quiet_eq (specIsName_is l0 hN _)) | (go_at_call 82; first | exact quiet_eq (l04Letters_any l2 hC _))))
      go_wp2
      go_ret
      exact ⟨ret_bool (by rw [affB, HN.out, HC.out]; rfl), nq, rfl⟩
    · have HC := Lib.hid hC
      cases hS : lettersB x.strip false
      · have HS := Lib.hid hS
        go_enter Tryz.func59, Tryz.ntmps59
        go_wp2
        go_quiet ((first | (go_at_call 81; exact quiet_eq (specIsName_is l0 hN _)) | (go_at_call 82; first | exact quiet_eq (l04Letters_any l2 hC _) | exact quiet_eq (l04Letters_any l3 hS _))))
        go_wp2
        go_ret
        exact ⟨ret_bool (by rw [affB, HN.out, HC.out, HS.out]; rfl), nq, rfl⟩
      · have HS := Lib.hid hS
        cases hA : lettersB x.add false
        · have HA := Lib.hid hA
          go_enter Tryz.func59, Tryz.ntmps59
          go_wp2
          go_quiet ((first | (go_at_call 81; exact quiet_eq (specIsName_is l0 hN _)) | (go_at_call 82; first | exact quiet_eq (l04Letters_any l2 hC _) | exact quiet_eq (l04Letters_any l3 hS _) | exact quiet_eq (l04Letters_any l4 hA _))))
          go_wp2
          go_ret
          exact ⟨ret_bool (by rw [affB, HN.out, HC.out, HS.out, HA.out]; rfl), nq, rfl⟩
        · have HA := Lib.hid hA
          cases hE : (x.strip.toList == x.add.toList)
          · have HE := Lib.hid (bytes_ne_of hE)
            have hE2 : (x.strip.toList != x.add.toList) = true := by rw [bne, hE]; rfl
            go_enter Tryz.func59, Tryz.ntmps59
            go_wp2
            go_quiet ((first | (go_at_call 81; exact quiet_eq (specIsName_is l0 hN _)) | (go_at_call 82; first | exact quiet_eq (l04Letters_any l2 hC _) | exact quiet_eq (l04Letters_any l3 hS _) | exact quiet_eq (l04Letters_any l4 hA _))))
            go_wp2
            go_ret
            exact ⟨ret_bool (by rw [affB, HN.out, HC.out, HS.out, HA.out, decide_eq_false HE.out]; rfl), nq, rfl⟩
          · have HE := Lib.hid (bytes_eq_of hE)
            have hE2 : (x.strip.toList != x.add.toList) = false := by rw [bne, hE]; rfl
            go_enter Tryz.func59, Tryz.ntmps59
            go_wp2
            go_quiet ((first | (go_at_call 81; exact quiet_eq (specIsName_is l0 hN _)) | (go_at_call 82; first | exact quiet_eq (l04Letters_any l2 hC _) | exact quiet_eq (l04Letters_any l3 hS _) | exact quiet_eq (l04Letters_any l4 hA _))))
            go_wp2
            go_ret
            exact ⟨ret_bool (by rw [affB, HN.out, HC.out, HS.out, HA.out, decide_eq_true HE.out]; rfl), nq, rfl⟩
/-! ### plain -/
/-- The index of the first affix with a name; -1: none. -/
def fndI (l : List AffD) (n : ByteArray) : Int := match l.findIdx? (fun a => decide (a.name = n)) with
  | some i => (i : Int)
  | none => -1
def hasB (l : List AffD) (n : ByteArray) : Bool := l.any fun a => decide (a.name = n)
theorem fnd_hit {l : List AffD} {n : ByteArray} {j : Nat} (hj : j < l.length) (h : l[j].name = n) (h2 : ∀ i (hi : i < j), l[i].name ≠ n) : fndI l n = j := by
  have : l.findIdx? (fun a => decide (a.name = n)) = some j := List.findIdx?_eq_some_iff_getElem.2 ⟨hj, by simp [h], fun i hi => by simpa using h2 i hi⟩
  rw [fndI, this]
theorem fnd_none {l : List AffD} {n : ByteArray} (h : ∀ i (hi : i < l.length), l[i].name ≠ n) : fndI l n = -1 := by
  have : l.findIdx? (fun a => decide (a.name = n)) = none := List.findIdx?_eq_none_iff.2 fun x hx => by
    obtain ⟨i, hi, rfl⟩ := List.getElem_of_mem hx
    simpa using h i hi
  rw [fndI, this]
theorem hasB_no {l : List AffD} {n : ByteArray} (h : hasB l n = false) : fndI l n = -1 := by
  refine fnd_none fun i hi he => ?_
  have : hasB l n = true := List.any_eq_true.2 ⟨l[i], List.getElem_mem hi, by simpa using he⟩
  rw [h] at this; cases this
theorem hasB_yes {l : List AffD} {n : ByteArray} (h : hasB l n = true) : 0 ≤ fndI l n := by
  unfold fndI
  split
  · omega
  · rename_i hn
    obtain ⟨x, hx, hp⟩ := List.any_eq_true.1 h
    rw [List.findIdx?_eq_none_iff] at hn
    rw [hn x hx] at hp; cases hp
/-- The first one with its name. -/
def FirstAt (l : List AffD) (j : Nat) (hj : j < l.length) : Prop := ∀ i (hi : i < j), l[i].name ≠ l[j].name
theorem fnd_first {l : List AffD} {j : Nat} (hj : j < l.length) (h : FirstAt l j hj) : fndI l l[j].name = j := fnd_hit hj rfl h
theorem fnd_later {l : List AffD} {j : Nat} (hj : j < l.length) (h : ¬ FirstAt l j hj) : fndI l l[j].name ≠ j := by
  intro he
  refine h fun i hi hn => ?_
  unfold fndI at he
  split at he
  · rename_i k hk
    rw [List.findIdx?_eq_some_iff_getElem] at hk
    obtain ⟨h1, h2, h3⟩ := hk
    have : k = j := by omega
    subst this
    exact h3 i hi (by simpa using hn)
  · omega
def stemB (l : List AffD) (s : StemD) : Bool := s.uses.all (hasB l) && incB s.uses && isLong s.word
def AffsOk (l : List AffD) : Prop := ∀ j (h : j < l.length), affB l[j] = true ∧ FirstAt l j h
def wordsOf (l : List StemD) : List ByteArray := l.map (·.word)
def StemsOk (g : GraD) : Prop := (∀ j (h : j < g.stems.length), stemB g.affixes g.stems[j] = true) ∧ IncTo (wordsOf g.stems) g.stems.length
def GraOk (g : GraD) : Prop := AffsOk g.affixes ∧ StemsOk g ∧ g.affixes.length ≤ 12 ∧ g.stems.length ≤ 30
open Classical in
noncomputable def graB (g : GraD) : Bool := decide (GraOk g)
open Classical in
theorem graB_yes {g : GraD} (h : GraOk g) : graB g = true := by unfold graB; exact decide_eq_true h
open Classical in
theorem graB_no {g : GraD} (h : ¬ GraOk g) : graB g = false := by unfold graB; exact decide_eq_false h
theorem wordsOf_len (l : List StemD) : (wordsOf l).length = l.length := by simp [wordsOf]
theorem wordsOf_at (l : List StemD) (j : Nat) (h : j < (wordsOf l).length) : (wordsOf l)[j] = (l[j]'(by simpa [wordsOf] using h)).word := by simp [wordsOf]
/-- A grammar in a box. -/
structure GraBox (w : World) (g : Nat) (s1 s2 : Value) (x : GraD) : Prop where
  c0 : w.cell? ⟨g, 0, none⟩ = some s1
  c1 : w.cell? ⟨g, 1, none⟩ = some s2
  a : Affs w s1 x.affixes
  s : Stems w s2 x.stems
theorem GraBox.below {w w' : World} {g s1 s2 x} (h : GraBox w g s1 s2 x) (hb : Below w.heap.size w w') : GraBox w' g s1 s2 x :=
  ⟨cell_below hb h.c0, cell_below hb h.c1, h.a.below hb, h.s.below hb⟩
theorem GraBox.drewN {w : World} {g s1 s2 x} (h : GraBox w g s1 s2 x) (q : Nat) : GraBox (w.drewN q) g s1 s2 x := h.below (below_drewN (Below.refl _ _) q)
/-! ### walks -/
theorem l04Find_any (g : Nat) (s1 : Value) (l : List AffD) (n : ByteArray) (w : World) (hc0 : w.cell? ⟨g, 0, none⟩ = some s1) (ha : Affs w s1 l) :
    Calls Tryz.prog 55 #[.pointer (some ⟨g, 0, none⟩), .string n] w fun e w' => e = .returned (.int .i64 (fndI l n)) ∧ w = w' := by
  obtain ⟨a, c, rfl, hl, hc, hcs⟩ := ha.shape
  unfold maxLen at hc
  clear ha
  go_enter Tryz.func55, Tryz.ntmps55
  go_wp2
  go_loop [5] (fun i => ∃ k : Nat, k ≤ l.length ∧ i = .int .i64 k ∧ ∀ i (hi : i < k), (h : i < l.length) → l[i].name ≠ n) (fun i => l.length - (intOf i).toNat)
  case atStart => exact ⟨0, by omega, rfl, fun i hi => by omega⟩
  case round =>
    obtain ⟨k, hk, rfl, hno⟩ := hrel
    have Hno := Lib.hid hno; clear hno
    by_cases hlt : k < l.length
    · obtain ⟨b, off, rfl, h0, -⟩ := hcs k hlt
      clear hcs
      cases he : (l[k].name.toList == n.toList)
      · have He := Lib.hid (bytes_ne_of he)
        go_wp2
        go_round
        case rel => exact ⟨k + 1, by omega, by go_num, fun i hi h => by
          rcases Nat.lt_succ_iff_lt_or_eq.1 hi with h2 | rfl
          · exact Hno.out i h2 h
          · exact He.out⟩
        case measure => simp [intOf]; omega
      · have He := Lib.hid (bytes_eq_of he)
        go_wp2
        go_ret
        exact ⟨ret_int (fnd_hit hlt He.out fun i hi => Hno.out i hi (by omega)).symm, rfl⟩
    · go_wp2
      go_ret
      exact ⟨ret_int (fnd_none fun i hi => Hno.out i (by omega) hi).symm, rfl⟩
set_option maxHeartbeats 2000000 in
theorem l04Stem_any (g b o : Nat) (s1 u : Value) (l : List AffD) (s : StemD) (w : World) (hg : w.cell? ⟨g, 0, none⟩ = some s1) (ha : Affs w s1 l)
    (h0 : w.cell? ⟨b, o, none⟩ = some (.string s.word)) (h1 : w.cell? ⟨b, o + 1, none⟩ = some u) (hw : s.word.size ≤ maxLen) (hu : Strs w u s.uses) :
    Calls Tryz.prog 60 #[.pointer (some ⟨g, 0, none⟩), .pointer (some ⟨b, o, none⟩)] w fun e w' => e = .returned (.bool (stemB l s)) ∧ ∃ q, w' = w.drewN q := by
  obtain ⟨a, c, rfl, hl, hc, hcs⟩ := hu.shape
  unfold maxLen at hc
  have hq : ∀ m n, Calls Tryz.prog 55 #[.pointer (some ⟨g, 0, none⟩), .string n] (w.drewN m) fun e w' => e = .returned (.int .i64 (fndI l n)) ∧ w.drewN m = w' :=
    fun m n => l04Find_any g s1 l n _ hg (ha.below (below_drewN (Below.refl _ _) m))
  have hlg : ∀ w0, Calls Tryz.prog 83 #[.string s.word] w0 fun e w' => e = .returned (.bool (isLong s.word)) ∧ w0 = w' := fun w0 => l05Long_any s.word w0 hw
  have HB0 := Lib.hid h0
  clear hu ha h0
  go_enter Tryz.func60, Tryz.ntmps60
  go_wp2
  go_loopw [5] (fun i wr => ∃ j q : Nat, j ≤ s.uses.length ∧ i = .int .i64 (j : Int) ∧ wr = w.drewN q ∧ IncTo s.uses j ∧ (∀ i, i < j → (h : i < s.uses.length) → hasB l s.uses[i] = true)) (fun i _ => s.uses.length - (intOf i).toNat)
  case atStart => exact ⟨0, 0, by omega, rfl, rfl, fun i h _ => by omega, fun i h => by omega⟩
  case round =>
    obtain ⟨j, q, hj, rfl, hw', hinc, hall⟩ := hrel
    have hg2 : wr.cell? ⟨g, 0, none⟩ = some s1 := by rw [hw']; exact hg
    have h12 : wr.cell? ⟨b, o + 1, none⟩ = some (.slice a s.uses.length c) := by rw [hw']; exact h1
    have h02 : wr.cell? ⟨b, o, none⟩ = some (.string s.word) := by rw [hw']; exact HB0.out
    have hqj : ∀ m n, Calls Tryz.prog 55 #[.pointer (some ⟨g, 0, none⟩), .string n] (wr.drewN m) fun e w' => e = .returned (.int .i64 (fndI l n)) ∧ wr.drewN m = w' := by
      rw [hw']; intro m n
      rw [drewN_two]; exact hq _ n
    have Hinc := Lib.hid hinc
    have Hall := Lib.hid hall
    have Hw := Lib.hid hw'
    clear hinc hall hw' hq h1
    by_cases hlt : j < s.uses.length
    · obtain ⟨b1, o1, rfl, hc1, hs1⟩ := hcs j hlt
      have hw1 : wr.cell? ⟨b1, o1 + j, none⟩ = some (.string s.uses[j]) := by rw [Hw.out]; exact hc1
      have hqk := fun m => hqj m s.uses[j]
      clear hqj
      cases hd : hasB l s.uses[j]
      · rw [hasB_no hd] at hqk
        have Hd := Lib.hid hd
        clear hcs hc1 hd
        go_wp2
        go_quiet ((go_at_call 55; exact quiet_eq (hqk _)))
        go_wp2
        go_ret
        refine ⟨ret_bool ?_, q + nq, by rw [Hw.out, drewN_two]⟩
        rw [stemB, show s.uses.all (hasB l) = false by rw [List.all_eq_false]; exact ⟨_, List.getElem_mem hlt, by simp [Hd.out]⟩]; rfl
      · have hv := hasB_yes hd
        have Hall2 : Hid (∀ i, i < j + 1 → (h : i < s.uses.length) → hasB l s.uses[i] = true) := Lib.hid (fun i hi h => by
          rcases Nat.lt_succ_iff_lt_or_eq.1 hi with h2 | rfl
          · exact Hall.out i h2 h
          · exact hd)
        generalize fndI l s.uses[j] = v at hqk hv
        have hv2 : decide (v < 0) = false := by rw [decide_eq_false_iff_not]; omega
        clear hd
        by_cases h0 : 0 < j
        · obtain ⟨k, rfl⟩ : ∃ k, j = k + 1 := ⟨j - 1, by omega⟩
          obtain ⟨b2, o2, he2, hc2, hs2⟩ := hcs k (by omega)
          cases he2
          have hw2 : wr.cell? ⟨b1, o1 + k, none⟩ = some (.string s.uses[k]) := by rw [Hw.out]; exact hc2
          clear hcs hc1 hc2
          rcases bl_tri s.uses[k].toList s.uses[k + 1].toList with ⟨hd2, hx1, -, hx2⟩ | ⟨hd2, hx1, -, -⟩ | ⟨hd2, hx1, hx2⟩
          · have Hd2 := Lib.hid hd2
            go_wp2
            go_quiet ((go_at_call 55; exact quiet_eq (hqk _)))
            go_wp2
            go_roundw
            case rel => exact ⟨k + 1 + 1, q + nq, by omega, by go_num, by rw [Hw.out, drewN_two], Hinc.out.succ hlt Hd2.out, Hall2.out⟩
            case measure => simp [intOf]; omega
          · have Hd2 := Lib.hid hd2
            go_wp2
            go_quiet ((go_at_call 55; exact quiet_eq (hqk _)))
            go_wp2
            go_ret
            refine ⟨ret_bool ?_, q + nq, by rw [Hw.out, drewN_two]⟩
            rw [stemB, lexB_false_of_inc hlt Hd2.out, Bool.and_false, Bool.false_and]
          · have Hd2 := Lib.hid hd2
            have hx3 : (s.uses[k + 1].toList == s.uses[k].toList) = true := by rw [hx2]; exact beq_self_eq_true _
            clear hx2
            go_wp2
            go_quiet ((go_at_call 55; exact quiet_eq (hqk _)))
            go_wp2
            go_ret
            refine ⟨ret_bool ?_, q + nq, by rw [Hw.out, drewN_two]⟩
            rw [stemB, lexB_false_of_inc hlt Hd2.out, Bool.and_false, Bool.false_and]
        · have hd0 : decide (0 < j) = false := by rw [decide_eq_false_iff_not]; omega
          have Hj := Lib.hid (show j = 0 by omega)
          clear hcs hc1 h0
          go_wp2
          go_quiet ((go_at_call 55; exact quiet_eq (hqk _)))
          go_wp2
          go_roundw
          case rel => exact ⟨j + 1, q + nq, by omega, by go_num, by rw [Hw.out, drewN_two], fun i h _ => by have := Hj.out; omega, Hall2.out⟩
          case measure => simp [intOf]; omega
    · clear hqj
      go_wp2_with (go_at_call 83; refine (hlg _).mono ?_; rintro e w1 ⟨rfl, rfl⟩)
      go_ret
      obtain rfl : j = s.uses.length := by omega
      refine ⟨ret_bool ?_, q, Hw.out⟩
      rw [stemB, (incB_iff _).2 Hinc.out, show s.uses.all (hasB l) = true from List.all_eq_true.2 fun x hx => by
        obtain ⟨i, hi, rfl⟩ := List.getElem_of_mem hx
        exact Hall.out i hi hi]
      rfl
set_option maxHeartbeats 4000000 in
theorem l04Ok_any (g : Nat) (s1 s2 : Value) (x : GraD) (w : World) (hx : GraBox w g s1 s2 x) :
    Calls Tryz.prog 34 #[.pointer (some ⟨g, 0, none⟩)] w fun e w' => e = .returned (.bool (graB x)) ∧ ∃ q, w' = w.drewN q := by
  obtain ⟨h0, h1, ha, hs⟩ := hx
  obtain ⟨a1, k1, rfl, hl1, hk1, hcs1⟩ := ha.shape
  obtain ⟨a2, k2, rfl, hl2, hk2, hcs2⟩ := hs.shape
  unfold maxLen at hk1 hk2
  have hq : ∀ m n, Calls Tryz.prog 55 #[.pointer (some ⟨g, 0, none⟩), .string n] (w.drewN m) fun e w' => e = .returned (.int .i64 (fndI x.affixes n)) ∧ w.drewN m = w' :=
    fun m n => l04Find_any g _ x.affixes n _ h0 (ha.below (below_drewN (Below.refl _ _) m))
  have HA := Lib.hid ha
  clear ha hs
  go_enter Tryz.func34, Tryz.ntmps34
  go_wp2
  go_loopw [3] (fun i wr => ∃ j q : Nat, j ≤ x.affixes.length ∧ i = .int .i64 (j : Int) ∧ wr = w.drewN q ∧ (∀ i, i < j → (h : i < x.affixes.length) → affB x.affixes[i] = true ∧ FirstAt x.affixes i h)) (fun i _ => x.affixes.length - (intOf i).toNat)
  case atStart => exact ⟨0, 0, by omega, rfl, rfl, fun i h => by omega⟩
  case round =>
    obtain ⟨j, q, hj, rfl, hw', hall⟩ := hrel
    have h02 : wr.cell? ⟨g, 0, none⟩ = some (.slice a1 x.affixes.length k1) := by rw [hw']; exact h0
    have h12 : wr.cell? ⟨g, 1, none⟩ = some (.slice a2 x.stems.length k2) := by rw [hw']; exact h1
    have Hall := Lib.hid hall
    have Hw := Lib.hid hw'
    clear hall hw'
    by_cases hlt : j < x.affixes.length
    · have hqj : ∀ m n, Calls Tryz.prog 55 #[.pointer (some ⟨g, 0, none⟩), .string n] (wr.drewN m) fun e w' => e = .returned (.int .i64 (fndI x.affixes n)) ∧ wr.drewN m = w' := by
        rw [Hw.out]; intro m n
        rw [drewN_two]; exact hq _ n
      have Hq := Lib.hid hqj
      clear hq hqj
      obtain ⟨b1, o1, rfl, e0, e1, e2, e3, e4, hlim⟩ := hcs1 j hlt
      have hat : ∀ m, Calls Tryz.prog 59 #[.pointer (some ⟨b1, o1 + j * 5, none⟩)] (wr.drewN m) fun e w' => e = .returned (.bool (affB x.affixes[j])) ∧ ∃ q, w' = (wr.drewN m).drewN q := by
        rw [Hw.out]; intro m
        exact l04AffixAt_any b1 (o1 + j * 5) x.affixes[j] _ ⟨e0, e1, e2, e3, e4, hlim⟩
      have hn : ∀ m, (wr.drewN m).cell? ⟨b1, o1 + j * 5, none⟩ = some (.string x.affixes[j].name) := by rw [Hw.out]; exact fun m => e0
      have h02' : ∀ m, (wr.drewN m).cell? ⟨g, 0, none⟩ = some (.slice (some ⟨b1, o1, none⟩) x.affixes.length k1) := fun m => h02
      clear hcs1 e0 e1 e2 e3 e4 hlim
      cases hv : affB x.affixes[j]
      · rw [hv] at hat
        have Hv := Lib.hid hv
        clear hv
        go_wp2_with (go_at_call 59; refine (hat 0).mono ?_; rintro e w1 ⟨rfl, q1, rfl⟩)
        go_ret
        refine ⟨ret_bool (graB_no fun h => ?_).symm, q + q1, by rw [Hw.out]; simp⟩
        have := (h.1 j hlt).1
        rw [Hv.out] at this; cases this
      · rw [hv] at hat
        have Hv := Lib.hid hv
        clear hv
        by_cases hf : FirstAt x.affixes j hlt
        · have hfn := fnd_first hlt hf
          have Hf := Lib.hid hf
          go_wp2_with (first
            | (go_at_call 59; refine (hat 0).mono ?_; rintro e w1 ⟨rfl, q1, rfl⟩)
            | (go_at_call 55; refine (Hq.out _ _).mono ?_; rintro e w2 ⟨rfl, rfl⟩; rw [hfn]))
          go_roundw
          case rel => exact ⟨j + 1, q + q1, by omega, by go_num, by rw [Hw.out, drewN_two], fun i hi h => by
            rcases Nat.lt_succ_iff_lt_or_eq.1 hi with h2 | rfl
            · exact Hall.out i h2 h
            · exact ⟨Hv.out, Hf.out⟩⟩
          case measure => simp [intOf]; omega
        · have hfn := fnd_later hlt hf
          have Hf := Lib.hid hf
          obtain ⟨v, hv⟩ : ∃ v, fndI x.affixes x.affixes[j].name = v := ⟨_, rfl⟩
          rw [hv] at hfn
          have hne : (v != (j : Int)) = true := bne_iff_ne.2 hfn
          clear hfn hf
          go_wp2_with (first
            | (go_at_call 59; refine (hat 0).mono ?_; rintro e w1 ⟨rfl, q1, rfl⟩)
            | (go_at_call 55; refine (Hq.out _ _).mono ?_; rintro e w2 ⟨rfl, rfl⟩; rw [hv]))
          go_ret
          exact ⟨ret_bool (graB_no fun h => Hf.out (h.1 j hlt).2).symm, q + q1, by rw [Hw.out, drewN_two]⟩
    · have Hall2 : Hid (AffsOk x.affixes) := Lib.hid fun i h => Hall.out i (by omega) h
      clear Hall hcs1 hq
      go_wp2
      obtain ⟨wo, rfl⟩ : ∃ wo : World, wo = wr := ⟨_, rfl⟩
      go_loopw [4] (fun i wr => ∃ j q : Nat, j ≤ x.stems.length ∧ i = .int .i64 (j : Int) ∧ wr = w.drewN q ∧ (∀ i, i < j → (h : i < x.stems.length) → stemB x.affixes x.stems[i] = true) ∧ IncTo (wordsOf x.stems) j) (fun i _ => x.stems.length - (intOf i).toNat)
      case atStart => exact ⟨0, q, by omega, rfl, Hw.out, fun i h => by omega, fun i h => by omega⟩
      case round =>
        obtain ⟨j, q, hj, rfl, hw', hall, hinc⟩ := hrel
        have h02 : wr.cell? ⟨g, 0, none⟩ = some (.slice a1 x.affixes.length k1) := by rw [hw']; exact h0
        have h12 : wr.cell? ⟨g, 1, none⟩ = some (.slice a2 x.stems.length k2) := by rw [hw']; exact h1
        have Hall := Lib.hid hall
        have Hinc := Lib.hid hinc
        have Hw := Lib.hid hw'
        clear hall hw' hinc
        by_cases hlt : j < x.stems.length
        · obtain ⟨b1, o1, u, rfl, e0, e1, e2, e3⟩ := hcs2 j hlt
          have hst : ∀ m, Calls Tryz.prog 60 #[.pointer (some ⟨g, 0, none⟩), .pointer (some ⟨b1, o1 + j * 2, none⟩)] (wr.drewN m) fun e w' => e = .returned (.bool (stemB x.affixes x.stems[j])) ∧ ∃ q, w' = (wr.drewN m).drewN q := by
            rw [Hw.out]; intro m
            exact l04Stem_any g b1 (o1 + j * 2) _ u x.affixes x.stems[j] _ h0 (HA.out.below (below_drewN (below_drewN (Below.refl _ _) q) m)) e0 e1 e2 (e3.below (below_drewN (below_drewN (Below.refl _ _) q) m))
          have hw1 : wr.cell? ⟨b1, o1 + j * 2, none⟩ = some (.string x.stems[j].word) := by rw [Hw.out]; exact e0
          cases hv : stemB x.affixes x.stems[j]
          · rw [hv] at hst
            have Hv := Lib.hid hv
            clear hv hcs2 e0 e1 e2 e3
            go_wp2
            go_quiet ((go_at_call 60; exact quiet_drew (hst _)))
            go_wp2
            go_ret
            refine ⟨ret_bool (graB_no fun h => ?_).symm, q + nq, by rw [Hw.out, drewN_two]⟩
            have := h.2.1.1 j hlt
            rw [Hv.out] at this; cases this
          · rw [hv] at hst
            have Hall2 : Hid (∀ i, i < j + 1 → (h : i < x.stems.length) → stemB x.affixes x.stems[i] = true) := Lib.hid (fun i hi h => by
              rcases Nat.lt_succ_iff_lt_or_eq.1 hi with h2 | rfl
              · exact Hall.out i h2 h
              · exact hv)
            clear hv
            by_cases hp : 0 < j
            · obtain ⟨k, rfl⟩ : ∃ k, j = k + 1 := ⟨j - 1, by omega⟩
              obtain ⟨b2, o2, u2, he2, f0, f1, f2, f3⟩ := hcs2 k (by omega)
              cases he2
              have hw2 : wr.cell? ⟨b1, o1 + k * 2, none⟩ = some (.string x.stems[k].word) := by rw [Hw.out]; exact f0
              have hlw : k + 1 < (wordsOf x.stems).length := by rw [wordsOf_len]; exact hlt
              have hno : Op.bytesLess x.stems[k].word.toList x.stems[k + 1].word.toList = false → graB x = false := fun hd => graB_no fun h => by
                have := h.2.1.2 k (by omega) hlw
                rw [wordsOf_at, wordsOf_at, hd] at this
                cases this
              have Hno := Lib.hid hno
              clear hno hcs2 e0 e1 e2 e3 f0 f1 f2 f3
              rcases bl_tri x.stems[k].word.toList x.stems[k + 1].word.toList with ⟨hd2, hx1, -, hx2⟩ | ⟨hd2, hx1, -, -⟩ | ⟨hd2, hx1, hx2⟩
              · have Hd2 := Lib.hid hd2
                go_wp2
                go_quiet ((go_at_call 60; exact quiet_drew (hst _)))
                go_wp2
                go_roundw
                case rel => exact ⟨k + 1 + 1, q + nq, by omega, by go_num, by rw [Hw.out, drewN_two], Hall2.out, Hinc.out.succ hlw (by rw [wordsOf_at, wordsOf_at]; exact Hd2.out)⟩
                case measure => simp [intOf]; omega
              · have Hd2 := Lib.hid hd2
                go_wp2
                go_quiet ((go_at_call 60; exact quiet_drew (hst _)))
                go_wp2
                go_ret
                exact ⟨ret_bool (Hno.out Hd2.out).symm, q + nq, by rw [Hw.out, drewN_two]⟩
              · have Hd2 := Lib.hid hd2
                have hx3 : (x.stems[k + 1].word.toList == x.stems[k].word.toList) = true := by rw [hx2]; exact beq_self_eq_true _
                clear hx2
                go_wp2
                go_quiet ((go_at_call 60; exact quiet_drew (hst _)))
                go_wp2
                go_ret
                exact ⟨ret_bool (Hno.out Hd2.out).symm, q + nq, by rw [Hw.out, drewN_two]⟩
            · have hd0 : decide (0 < j) = false := by rw [decide_eq_false_iff_not]; omega
              have Hj := Lib.hid (show j = 0 by omega)
              clear hcs2 e0 e1 e2 e3 hp
              go_wp2
              go_quiet ((go_at_call 60; exact quiet_drew (hst _)))
              go_wp2
              go_roundw
              case rel => exact ⟨j + 1, q + nq, by omega, by go_num, by rw [Hw.out, drewN_two], Hall2.out, fun i h _ => by have := Hj.out; omega⟩
              case measure => simp [intOf]; omega
        · have hAll : StemsOk x := ⟨fun i h => Hall.out i (by omega) h, fun i h1 h2 => Hinc.out i (by omega) h2⟩
          have HAll := Lib.hid hAll
          clear hAll hcs2 Hall Hinc
          cases hc1 : decide ((x.affixes.length : Int) ≤ 12) <;> cases hc2 : decide ((x.stems.length : Int) ≤ 30)
          · go_wp2
            go_ret
            exact ⟨ret_bool (graB_no fun h => by have := h.2.2.1; rw [decide_eq_false_iff_not] at hc1; omega).symm, q, Hw.out⟩
          · go_wp2
            go_ret
            exact ⟨ret_bool (graB_no fun h => by have := h.2.2.1; rw [decide_eq_false_iff_not] at hc1; omega).symm, q, Hw.out⟩
          · go_wp2
            go_ret
            exact ⟨ret_bool (graB_no fun h => by have := h.2.2.2; rw [decide_eq_false_iff_not] at hc2; omega).symm, q, Hw.out⟩
          · go_wp2
            go_ret
            exact ⟨ret_bool (graB_yes ⟨Hall2.out, HAll.out, by rw [decide_eq_true_iff] at hc1; omega, by rw [decide_eq_true_iff] at hc2; omega⟩).symm, q, Hw.out⟩
theorem specValidGrammar_any (v : Value) (x : GraD) (w : World) (hv : GraR w v x) (_hM : MaxL w) :
    Calls Tryz.prog 17 #[v] w fun e w' => e = .returned (.bool (graB x)) ∧ Below w.heap.size w w' := by
  obtain ⟨s1, s2, rfl, ha, hs⟩ := hv
  have hb0 : Below w.heap.size w (w.alloc (.cells #[s1, s2] 27)) := (Below.refl _ _).alloc (Nat.le_refl _) _
  have HB : Hid (GraBox (w.alloc (.cells #[s1, s2] 27)) w.heap.size s1 s2 x) := Lib.hid ⟨cell_newi w _ _ 0 _ rfl, cell_newi w _ _ 1 _ rfl, ha.below hb0, hs.below hb0⟩
  obtain ⟨a1, c1, rfl, _⟩ := ha.shape
  obtain ⟨a2, c2, rfl, _⟩ := hs.shape
  clear ha hs
  go_enter Tryz.func17, Tryz.ntmps17
  go_wp2_with fail
  refine (l04Ok_any _ _ _ x _ HB.out).mono ?_
  rintro e w1 ⟨rfl, q, rfl⟩
  go_wp2
  go_ret
  exact ⟨rfl, below_drewN hb0 q⟩
end Go.Proofs.YtndfhmphlomeiaaGreatDoor
