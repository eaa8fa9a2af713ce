/- Grammars as arguments: szGrammar, toGrammar, eqGrammar, and of their parts. No condition but the readings. -/
import Derived.Test.YtgefgdkejenhnaaDoorGr
namespace Go.Proofs.YtgefgdkejenhnaaDoor
open Go.RowKit
def sumSz {α : Type} (f : α → Nat) (l : List α) : Nat := (l.map f).sum
theorem sumSz_take {α : Type} (f : α → Nat) (l : List α) (j : Nat) (h : j < l.length) : sumSz f (l.take (j + 1)) = sumSz f (l.take j) + f l[j] := by
  unfold sumSz; rw [List.take_succ_eq_append_getElem h, List.map_append, List.sum_append]; simp
theorem sumSz_le {α : Type} (f : α → Nat) (l : List α) (j : Nat) : sumSz f (l.take j) ≤ sumSz f l := by
  unfold sumSz
  conv => rhs; rw [← List.take_append_drop j l]
  rw [List.map_append, List.sum_append]; omega
def szAs (l : List AffD) : Nat := l.length + sumSz szAffR l
def szStemR (x : StemD) : Nat := x.word.size + szL x.uses
def szSs (l : List StemD) : Nat := l.length + sumSz szStemR l
def szGraR (x : GraD) : Nat := szAs x.affixes + szSs x.stems
structure GraLim (x : GraD) : Prop where
  a : x.affixes.length ≤ 1048576
  s : x.stems.length ≤ 1048576
  u : ∀ y ∈ x.stems, y.uses.length ≤ 1048576
  l : ∀ y ∈ x.affixes, AffLim y 1048576
theorem sumSz_mem {α : Type} (f : α → Nat) {l : List α} {x : α} (h : x ∈ l) : f x ≤ sumSz f l := by
  unfold sumSz
  induction l with
  | nil => cases h
  | cons a l ih =>
    rcases List.mem_cons.1 h with rfl | h
    · simp
    · have := ih h; simp; omega
theorem szNGrammar {x : GraD} {n : Nat} (h : szGraR x ≤ n) (hn : n ≤ 1048576) : GraLim x := by
  unfold szGraR szAs szSs at h
  refine ⟨by omega, by omega, fun y hy => ?_, fun y hy => ?_⟩
  rotate_left
  · have h1 := sumSz_mem szAffR hy
    exact szNAffix (n := 1048576) (by omega) (Nat.le_refl _)
  have h1 : y.word.size + szL y.uses ≤ sumSz szStemR x.stems := sumSz_mem szStemR hy
  unfold szL at h1
  omega
attribute [local irreducible] Calls
set_option maxHeartbeats 2000000 in
set_option maxRecDepth 20000 in
theorem szAffixS_any (v : Value) (l : List AffD) (left : Nat) (w : World) (hv : Affs w v l) (hleft : left ≤ 1048576) :
    Calls Tryd.prog 29 #[v, .int .i64 left] w fun e w' => ((szAs l ≤ left ∧ e = .returned (.int .i64 ((left - szAs l : Nat) : Int))) ∨ (left < szAs l ∧ e = .returned (.int .i64 (-1)))) ∧ Below w.heap.size w w' := by
  obtain ⟨a, c, rfl, hl, hc, hcs⟩ := hv.shape
  unfold maxLen at hc
  clear hv
  by_cases h0 : l.length ≤ left
  · go_enter Tryd.func29, Tryd.ntmps29
    go_wp2
    go_loopw [1, 5] (fun t i wr => ∃ j m : Nat, j ≤ l.length ∧ m ≤ left ∧ i = .int .i64 j ∧ t = .int .i64 m ∧ Hid (m + l.length + sumSz szAffR (l.take j) = left) ∧ Hid (Below w.heap.size w wr)) (fun _ i _ => l.length - (intOf i).toNat)
    case atStart => exact ⟨0, left - l.length, Nat.zero_le _, by omega, rfl, by go_num, Lib.hid (by simp [sumSz]; omega), Lib.hid (Below.refl _ _)⟩
    case round =>
      obtain ⟨j, m, hj, hm, rfl, rfl, Hsum, HB⟩ := hrel
      by_cases hlt : j < l.length
      · have hltI : (j : Int) < (l.length : Int) := by omega
        obtain ⟨b, off, rfl, k0, k1, k2, k3, k4, hlim⟩ := hcs j hlt
        have d0 := cell_below HB.out k0
        have d1 := cell_below HB.out k1
        have d2 := cell_below HB.out k2
        have d3 := cell_below HB.out k3
        have d4 := cell_below HB.out k4
        clear k0 k1 k2 k3 k4
        have Hcs := Lib.hid hcs
        clear hcs
        go_wp2_with fail
        refine (szAffix_any _ l[j] _ m _ ⟨rfl, hlim⟩ rfl (by omega)).mono ?_
        rintro e w2 ⟨⟨hle, rfl⟩ | ⟨hgt, rfl⟩, hb2⟩
        · have HB2 := Lib.hid (HB.out.trans (hb2.mono HB.out.size))
          have hmr : m - szAffR l[j] ≤ left := by omega
          have Hle := Lib.hid hle
          have hnn : ¬ (((m - szAffR l[j] : Nat) : Int) < 0) := by omega
          obtain ⟨m2, hm2⟩ : ∃ m2, m2 = m - szAffR l[j] := ⟨_, rfl⟩
          rw [← hm2] at hmr hnn ⊢
          have Hm2 := Lib.hid hm2
          clear hb2 hle hm2
          go_wp2
          go_roundw
          case rel => exact ⟨j + 1, m2, by omega, hmr, by go_num, rfl, Lib.hid (by rw [sumSz_take _ l j hlt]; have := Hsum.out; have := Hle.out; have := Hm2.out; omega), HB2⟩
          case measure => simp [intOf]; omega
        · have HB2 := Lib.hid (HB.out.trans (hb2.mono HB.out.size))
          have Hgt := Lib.hid hgt
          clear hb2 hgt
          go_wp2
          go_ret
          refine ⟨.inr ⟨?_, rfl⟩, HB2.out⟩
          have h1 := Hsum.out
          have h2 := sumSz_le szAffR l (j + 1)
          rw [sumSz_take _ l j hlt] at h2
          have := Hgt.out
          unfold szAs
          omega
      · go_wp2
        go_ret
        obtain rfl : j = l.length := by omega
        have h1 := Hsum.out
        rw [List.take_length] at h1
        refine ⟨.inl ⟨by unfold szAs; omega, ?_⟩, HB.out⟩
        exact ret_int (by unfold szAs; omega)
  · go_enter Tryd.func29, Tryd.ntmps29
    go_wp2
    go_ret
    exact ⟨.inr ⟨by unfold szAs; omega, rfl⟩, Below.refl _ _⟩
set_option maxHeartbeats 1000000 in
theorem szStem_any (x : StemD) (u : Value) (z : Int) (left : Nat) (w : World) (hw : x.word.size ≤ maxLen) (hu : Strs w u x.uses) (hz : z = (left : Int)) (hleft : left ≤ 1048576) :
    Calls Tryd.prog 69 #[.agg #[.string x.word, u], .int .i64 z] w fun e w' => ((szStemR x ≤ left ∧ e = .returned (.int .i64 ((left - szStemR x : Nat) : Int))) ∨ (left < szStemR x ∧ e = .returned (.int .i64 (-1)))) ∧ Below w.heap.size w w' := by
  subst hz
  unfold maxLen at hw
  have hb0 : Below w.heap.size w (w.alloc (.cells #[.string x.word, u] 106)) := (Below.refl _ _).alloc (Nat.le_refl _) _
  by_cases h1 : x.word.size ≤ left
  · go_enter Tryd.func69, Tryd.ntmps69
    go_wp2_with fail
    have e1 : (left : Int) - (x.word.size : Int) = ((left - x.word.size : Nat) : Int) := by omega
    rw [e1]
    refine (szStringS_any u x.uses (left - x.word.size) _ (hu.below hb0) (by omega)).mono ?_
    rintro e w2 ⟨⟨hle, rfl⟩ | ⟨hgt, rfl⟩, hb2⟩
    · have hbb := hb0.trans (hb2.mono hb0.size)
      have Hle := Lib.hid hle
      have e2 : left - x.word.size - szL x.uses = left - szStemR x := by unfold szStemR; omega
      rw [e2]
      have hnn : ¬ (((left - szStemR x : Nat) : Int) < 0) := by omega
      clear hb2 hle e2
      go_wp2
      go_ret
      exact ⟨.inl ⟨by have := Hle.out; unfold szStemR; omega, rfl⟩, hbb⟩
    · have hbb := hb0.trans (hb2.mono hb0.size)
      go_wp2
      go_ret
      exact ⟨.inr ⟨by unfold szStemR; omega, rfl⟩, hbb⟩
  · go_enter Tryd.func69, Tryd.ntmps69
    go_wp2
    go_ret
    exact ⟨.inr ⟨by unfold szStemR; omega, rfl⟩, hb0⟩
set_option maxHeartbeats 2000000 in
set_option maxRecDepth 20000 in
theorem szStemS_any (v : Value) (l : List StemD) (left : Nat) (w : World) (hv : Stems w v l) (hleft : left ≤ 1048576) :
    Calls Tryd.prog 30 #[v, .int .i64 left] w fun e w' => ((szSs l ≤ left ∧ e = .returned (.int .i64 ((left - szSs l : Nat) : Int))) ∨ (left < szSs l ∧ e = .returned (.int .i64 (-1)))) ∧ Below w.heap.size w w' := by
  obtain ⟨a, c, rfl, hl, hc, hcs⟩ := hv.shape
  unfold maxLen at hc
  clear hv
  by_cases h0 : l.length ≤ left
  · go_enter Tryd.func30, Tryd.ntmps30
    go_wp2
    go_loopw [1, 5] (fun t i wr => ∃ j m : Nat, j ≤ l.length ∧ m ≤ left ∧ i = .int .i64 j ∧ t = .int .i64 m ∧ Hid (m + l.length + sumSz szStemR (l.take j) = left) ∧ Hid (Below w.heap.size w wr)) (fun _ i _ => l.length - (intOf i).toNat)
    case atStart => exact ⟨0, left - l.length, Nat.zero_le _, by omega, rfl, by go_num, Lib.hid (by simp [sumSz]; omega), Lib.hid (Below.refl _ _)⟩
    case round =>
      obtain ⟨j, m, hj, hm, rfl, rfl, Hsum, HB⟩ := hrel
      by_cases hlt : j < l.length
      · have hltI : (j : Int) < (l.length : Int) := by omega
        obtain ⟨b, off, u, rfl, k0, k1, hlim, hu⟩ := hcs j hlt
        have d0 := cell_below HB.out k0
        have d1 := cell_below HB.out k1
        have Hu := Lib.hid (hu.below HB.out)
        clear k0 k1 hu
        have Hcs := Lib.hid hcs
        clear hcs
        go_wp2_with fail
        refine (szStem_any l[j] u _ m _ hlim Hu.out rfl (by omega)).mono ?_
        rintro e w2 ⟨⟨hle, rfl⟩ | ⟨hgt, rfl⟩, hb2⟩
        · have HB2 := Lib.hid (HB.out.trans (hb2.mono HB.out.size))
          have hmr : m - szStemR l[j] ≤ left := by omega
          have Hle := Lib.hid hle
          have hnn : ¬ (((m - szStemR l[j] : Nat) : Int) < 0) := by omega
          obtain ⟨m2, hm2⟩ : ∃ m2, m2 = m - szStemR l[j] := ⟨_, rfl⟩
          rw [← hm2] at hmr hnn ⊢
          have Hm2 := Lib.hid hm2
          clear hb2 hle hm2
          go_wp2
          go_roundw
          case rel => exact ⟨j + 1, m2, by omega, hmr, by go_num, rfl, Lib.hid (by rw [sumSz_take _ l j hlt]; have := Hsum.out; have := Hle.out; have := Hm2.out; omega), HB2⟩
          case measure => simp [intOf]; omega
        · have HB2 := Lib.hid (HB.out.trans (hb2.mono HB.out.size))
          have Hgt := Lib.hid hgt
          clear hb2 hgt
          go_wp2
          go_ret
          refine ⟨.inr ⟨?_, rfl⟩, HB2.out⟩
          have h1 := Hsum.out
          have h2 := sumSz_le szStemR l (j + 1)
          rw [sumSz_take _ l j hlt] at h2
          have := Hgt.out
          unfold szSs
          omega
      · go_wp2
        go_ret
        obtain rfl : j = l.length := by omega
        have h1 := Hsum.out
        rw [List.take_length] at h1
        refine ⟨.inl ⟨by unfold szSs; omega, ?_⟩, HB.out⟩
        exact ret_int (by unfold szSs; omega)
  · go_enter Tryd.func30, Tryd.ntmps30
    go_wp2
    go_ret
    exact ⟨.inr ⟨by unfold szSs; omega, rfl⟩, Below.refl _ _⟩
set_option maxHeartbeats 1000000 in
theorem szGrammar_any (v : Value) (x : GraD) (z : Int) (left : Nat) (w : World) (hv : GraR w v x) (hz : z = (left : Int)) (hleft : left ≤ 1048576) :
    Calls Tryd.prog 8 #[v, .int .i64 z] w fun e w' => ((szGraR x ≤ left ∧ e = .returned (.int .i64 ((left - szGraR x : Nat) : Int))) ∨ (left < szGraR x ∧ e = .returned (.int .i64 (-1)))) ∧ Below w.heap.size w w' := by
  subst hz
  obtain ⟨s1, s2, rfl, h1, h2⟩ := hv
  have hb0 : Below w.heap.size w (w.alloc (.cells #[s1, s2] 25)) := (Below.refl _ _).alloc (Nat.le_refl _) _
  have c1 := cell_newi w #[s1, s2] 25 1 s2 rfl
  go_enter Tryd.func8, Tryd.ntmps8
  go_wp2_with fail
  refine (szAffixS_any s1 x.affixes left _ (h1.below hb0) hleft).mono ?_
  rintro e w1 ⟨⟨hle, rfl⟩ | ⟨hgt, rfl⟩, hb1⟩
  · have hbb := hb0.trans (hb1.mono hb0.size)
    have d1 := cell_below hb1 c1
    have hnn : ¬ (((left - szAs x.affixes : Nat) : Int) < 0) := by omega
    have hl2 : left - szAs x.affixes ≤ 1048576 := by omega
    obtain ⟨m, hm⟩ : ∃ m, m = left - szAs x.affixes := ⟨_, rfl⟩
    rw [← hm] at hnn hl2 ⊢
    have Hm := Lib.hid hm
    have Hle := Lib.hid hle
    clear hb1 c1 hm hle
    go_wp2_with fail
    refine (szStemS_any s2 x.stems m _ (h2.below hbb) hl2).mono ?_
    rintro e w2 ⟨⟨hle, rfl⟩ | ⟨hgt, rfl⟩, hb2⟩
    · have hbb2 := hbb.trans (hb2.mono hbb.size)
      have hnn : ¬ (((m - szSs x.stems : Nat) : Int) < 0) := by omega
      have Hle2 := Lib.hid hle
      obtain ⟨m2, hm2⟩ : ∃ m2, m2 = m - szSs x.stems := ⟨_, rfl⟩
      rw [← hm2] at hnn ⊢
      have Hm2 := Lib.hid hm2
      clear hb2 hm2 hle
      go_wp2
      go_ret
      refine ⟨.inl ⟨?_, ret_int ?_⟩, hbb2⟩
      · have := Hm.out; have := Hm2.out; have := Hle.out; have := Hle2.out; unfold szGraR; omega
      · have := Hm.out; have := Hm2.out; have := Hle.out; have := Hle2.out; unfold szGraR; omega
    · have hbb2 := hbb.trans (hb2.mono hbb.size)
      have Hgt := Lib.hid hgt
      clear hb2 hgt
      go_wp2
      go_ret
      exact ⟨.inr ⟨by have := Hm.out; have := Hle.out; have := Hgt.out; unfold szGraR; omega, rfl⟩, hbb2⟩
  · have hbb := hb0.trans (hb1.mono hb0.size)
    have Hgt := Lib.hid hgt
    clear hb1 hgt
    go_wp2
    go_ret
    exact ⟨.inr ⟨by have := Hgt.out; unfold szGraR; omega, rfl⟩, hbb⟩
theorem affD_eq (x y : AffD) : decide (x = y) = (decide (x.name = y.name) && (decide (x.front = y.front) && (decide (x.cond = y.cond) && (decide (x.strip = y.strip) && decide (x.add = y.add))))) := by
  cases x; cases y; simp
set_option maxHeartbeats 2000000 in
theorem eqAffix_any (x y : AffD) (w : World) :
    Calls Tryd.prog 80 #[.agg #[.string x.name, .bool x.front, .string x.cond, .string x.strip, .string x.add], .agg #[.string y.name, .bool y.front, .string y.cond, .string y.strip, .string y.add]] w fun e w' => e = .returned (.bool (decide (x = y))) ∧ Below w.heap.size w w' := by
  have hb0 : Below w.heap.size w ((w.alloc (.cells #[.string x.name, .bool x.front, .string x.cond, .string x.strip, .string x.add] 64)).alloc (.cells #[.string y.name, .bool y.front, .string y.cond, .string y.strip, .string y.add] 64)) := ((Below.refl _ _).alloc (Nat.le_refl _) _).alloc (by simp) _
  rw [affD_eq]
  cases h0 : (x.name.toList == y.name.toList)
  · have H0 := Lib.hid h0
    go_enter Tryd.func80, Tryd.ntmps80
    go_wp2
    go_ret
    exact ⟨ret_bool (by rw [decide_eq_false (bytes_ne_of H0.out)]; simp), hb0⟩
  have H0 := Lib.hid h0
  have E0 := Lib.hid (bytes_eq_of h0)
  cases h1 : (x.front == y.front)
  · have H1 := Lib.hid h1
    go_enter Tryd.func80, Tryd.ntmps80
    go_wp2
    go_ret
    exact ⟨ret_bool (by rw [decide_eq_false (show ¬ (x.front = y.front) from fun e => by have := H1.out; rw [e] at this; simp at this)]; simp), hb0⟩
  have H1 := Lib.hid h1
  have E1 := Lib.hid (show x.front = y.front from eq_of_beq h1)
  cases h2 : (x.cond.toList == y.cond.toList)
  · have H2 := Lib.hid h2
    go_enter Tryd.func80, Tryd.ntmps80
    go_wp2
    go_ret
    exact ⟨ret_bool (by rw [decide_eq_false (bytes_ne_of H2.out)]; simp), hb0⟩
  have H2 := Lib.hid h2
  have E2 := Lib.hid (bytes_eq_of h2)
  cases h3 : (x.strip.toList == y.strip.toList)
  · have H3 := Lib.hid h3
    go_enter Tryd.func80, Tryd.ntmps80
    go_wp2
    go_ret
    exact ⟨ret_bool (by rw [decide_eq_false (bytes_ne_of H3.out)]; simp), hb0⟩
  have H3 := Lib.hid h3
  have E3 := Lib.hid (bytes_eq_of h3)
  cases h4 : (x.add.toList == y.add.toList)
  · have H4 := Lib.hid h4
    go_enter Tryd.func80, Tryd.ntmps80
    go_wp2
    go_ret
    exact ⟨ret_bool (by rw [decide_eq_false (bytes_ne_of H4.out)]; simp), hb0⟩
  have H4 := Lib.hid h4
  have E4 := Lib.hid (bytes_eq_of h4)
  go_enter Tryd.func80, Tryd.ntmps80
  go_wp2
  go_ret
  exact ⟨ret_bool (by rw [decide_eq_true E0.out, decide_eq_true E1.out, decide_eq_true E2.out, decide_eq_true E3.out, decide_eq_true E4.out]; rfl), hb0⟩
end Go.Proofs.YtgefgdkejenhnaaDoor
