/- Grammars as arguments: eqGrammar, toGrammar and their parts. No condition but the readings. -/
import Derived.Test.YtgefgdkejenhnaaDoorGt
import Derived.Laws.ResultCell
import Derived.Laws.Rows
import Derived.Laws.MakeOwn
namespace Go.Proofs.YtgefgdkejenhnaaDoor
open Go.RowKit
attribute [local irreducible] Calls
set_option maxHeartbeats 4000000 in
set_option maxRecDepth 20000 in
theorem eqAffixS_any (a b : Value) (l1 l2 : List AffD) (w : World) (ha : Affs w a l1) (hb : Affs w b l2) :
    Calls Tryd.prog 36 #[a, b] w fun e w' => e = .returned (.bool (decide (l1 = l2))) ∧ Below w.heap.size w w' := by
  obtain ⟨a1, c1, rfl, h1, h1', h1c⟩ := ha.shape
  obtain ⟨a2, c2, rfl, h2, h2', h2c⟩ := hb.shape
  clear ha hb
  unfold maxLen at h1' h2'
  by_cases hlen : l1.length = l2.length
  · have Hlen := Lib.hid hlen
    have hl0 : ((l1.length : Int) != (l2.length : Int)) = false := by rw [bne_eq_false_iff_eq]; omega
    clear hlen
    go_enter Tryd.func36, Tryd.ntmps36
    go_wp2
    go_loopw [5] (fun i wr => ∃ k : Nat, k ≤ l1.length ∧ i = .int .i64 k ∧ Hid (l1.take k = l2.take k) ∧ Hid (Below w.heap.size w wr)) (fun i _ => l1.length - (intOf i).toNat)
    case atStart => exact ⟨0, Nat.zero_le _, rfl, Lib.hid rfl, Lib.hid (Below.refl _ _)⟩
    case round =>
      obtain ⟨k, hk, rfl, Heq, HB⟩ := hrel
      by_cases hlt : k < l1.length
      · have hlt2 : k < l2.length := by have := Hlen.out; omega
        obtain ⟨b1, o1, rfl, k0, k1, k2, k3, k4, -⟩ := h1c k hlt
        obtain ⟨b2, o2, rfl, k5, k6, k7, k8, k9, -⟩ := h2c k hlt2
        have f0 : wr.cell? ⟨b1, o1 + k * 5, none⟩ = some (.string l1[k].name) := cell_below HB.out k0
        have f1 : wr.cell? ⟨b1, o1 + k * 5 + 1, none⟩ = some (.bool l1[k].front) := cell_below HB.out k1
        have f2 : wr.cell? ⟨b1, o1 + k * 5 + 2, none⟩ = some (.string l1[k].cond) := cell_below HB.out k2
        have f3 : wr.cell? ⟨b1, o1 + k * 5 + 3, none⟩ = some (.string l1[k].strip) := cell_below HB.out k3
        have f4 : wr.cell? ⟨b1, o1 + k * 5 + 4, none⟩ = some (.string l1[k].add) := cell_below HB.out k4
        have f5 : wr.cell? ⟨b2, o2 + k * 5, none⟩ = some (.string l2[k].name) := cell_below HB.out k5
        have f6 : wr.cell? ⟨b2, o2 + k * 5 + 1, none⟩ = some (.bool l2[k].front) := cell_below HB.out k6
        have f7 : wr.cell? ⟨b2, o2 + k * 5 + 2, none⟩ = some (.string l2[k].cond) := cell_below HB.out k7
        have f8 : wr.cell? ⟨b2, o2 + k * 5 + 3, none⟩ = some (.string l2[k].strip) := cell_below HB.out k8
        have f9 : wr.cell? ⟨b2, o2 + k * 5 + 4, none⟩ = some (.string l2[k].add) := cell_below HB.out k9
        have hI0 : (0 : Int) ≤ (k : Int) := by omega
        have hI1 : (k : Int) < (l1.length : Int) := by omega
        have hI2 : (k : Int) < (l2.length : Int) := by omega
        clear k0 k1 k2 k3 k4 k5 k6 k7 k8 k9 h1c h2c
        go_wp2_with fail
        go_region_held3 (fun w' => w'.cell? ⟨b1, o1 + k * 5, none⟩ = some (.string l1[k].name) ∧ w'.cell? ⟨b1, o1 + k * 5 + 1, none⟩ = some (.bool l1[k].front) ∧ w'.cell? ⟨b1, o1 + k * 5 + 2, none⟩ = some (.string l1[k].cond) ∧ w'.cell? ⟨b1, o1 + k * 5 + 3, none⟩ = some (.string l1[k].strip) ∧ w'.cell? ⟨b1, o1 + k * 5 + 4, none⟩ = some (.string l1[k].add) ∧ w'.cell? ⟨b2, o2 + k * 5, none⟩ = some (.string l2[k].name) ∧ w'.cell? ⟨b2, o2 + k * 5 + 1, none⟩ = some (.bool l2[k].front) ∧ w'.cell? ⟨b2, o2 + k * 5 + 2, none⟩ = some (.string l2[k].cond) ∧ w'.cell? ⟨b2, o2 + k * 5 + 3, none⟩ = some (.string l2[k].strip) ∧ w'.cell? ⟨b2, o2 + k * 5 + 4, none⟩ = some (.string l2[k].add) ∧ Below wr.heap.size wr w')
          (first | exact ⟨f0, f1, f2, f3, f4, f5, f6, f7, f8, f9, (Below.refl _ _).drew⟩ | exact keepC hbk (by assumption) fun h => keepC hbk h fun h => keepC hbk h fun h => keepC hbk h fun h => keepC hbk h fun h => keepC hbk h fun h => keepC hbk h fun h => keepC hbk h fun h => keepC hbk h fun h => keepC hbk h fun h => keepE hbk h)
          (first | (go_at_call 80; refine (eqAffix_any l1[k] l2[k] _).mono ?_; rintro e w2 ⟨rfl, hbk⟩))
        have hb2 := (by assumption : _ ∧ _ ∧ _ ∧ _ ∧ _ ∧ _ ∧ _ ∧ _ ∧ _ ∧ _ ∧ Below wr.heap.size wr w2).2.2.2.2.2.2.2.2.2.2
        have HB2 := Lib.hid (HB.out.trans (hb2.mono HB.out.size))
        clear hb2 f0 f1 f2 f3 f4 f5 f6 f7 f8 f9
        cases hd : decide (l1[k] = l2[k])
        · have Hd := Lib.hid hd
          go_wp2
          go_ret
          exact ⟨ret_bool (by rw [eq_comm, decide_eq_false_iff_not]; rintro rfl; have := Hd.out; simp at this), HB2.out⟩
        · have Hd := Lib.hid (of_decide_eq_true hd)
          go_wp2
          go_roundw
          case rel => exact ⟨k + 1, by omega, by go_num, Lib.hid (take_eq_succ Heq.out hlt hlt2 Hd.out), HB2⟩
          case measure => simp [intOf]; omega
      · go_wp2
        go_ret
        refine ⟨ret_bool ?_, HB.out⟩
        rw [eq_comm, decide_eq_true_iff]
        have h := Heq.out
        rwa [List.take_of_length_le (by omega), List.take_of_length_le (by have := Hlen.out; omega)] at h
  · have hl0 : ((l1.length : Int) != (l2.length : Int)) = true := by rw [bne_iff_ne]; omega
    have H := Lib.hid hlen
    clear hlen
    go_enter Tryd.func36, Tryd.ntmps36
    go_wp2
    go_ret
    exact ⟨ret_bool (by rw [eq_comm, decide_eq_false_iff_not]; rintro rfl; exact H.out rfl), Below.refl _ _⟩
theorem stemD_eq (x y : StemD) : decide (x = y) = (decide (x.word = y.word) && decide (x.uses = y.uses)) := by
  cases x; cases y; simp
set_option maxHeartbeats 2000000 in
theorem eqStem_any (x y : StemD) (u v : Value) (w : World) (hu : Strs w u x.uses) (hv : Strs w v y.uses) :
    Calls Tryd.prog 81 #[.agg #[.string x.word, u], .agg #[.string y.word, v]] w fun e w' => e = .returned (.bool (decide (x = y))) ∧ Below w.heap.size w w' := by
  have hb0 : Below w.heap.size w ((w.alloc (.cells #[.string x.word, u] 67)).alloc (.cells #[.string y.word, v] 67)) := ((Below.refl _ _).alloc (Nat.le_refl _) _).alloc (by simp) _
  rw [stemD_eq]
  cases h0 : (x.word.toList == y.word.toList)
  · have H0 := Lib.hid h0
    go_enter Tryd.func81, Tryd.ntmps81
    go_wp2
    go_ret
    exact ⟨ret_bool (by rw [decide_eq_false (bytes_ne_of H0.out)]; rfl), hb0⟩
  · have E0 := Lib.hid (bytes_eq_of h0)
    go_enter Tryd.func81, Tryd.ntmps81
    go_wp2_with fail
    refine (eqStringS_any u v x.uses y.uses _ (hu.below hb0) (hv.below hb0)).mono ?_
    rintro e w1 ⟨rfl, hb1⟩
    have hbb := hb0.trans (hb1.mono hb0.size)
    cases hd : decide (x.uses = y.uses)
    · have HD := Lib.hid hd
      go_wp2
      go_ret
      exact ⟨ret_bool (by rw [decide_eq_true E0.out, Bool.true_and, HD.out]), hbb⟩
    · have HD := Lib.hid hd
      go_wp2
      go_ret
      exact ⟨ret_bool (by rw [decide_eq_true E0.out, Bool.true_and, HD.out]), hbb⟩
set_option maxHeartbeats 4000000 in
set_option maxRecDepth 20000 in
theorem eqStemS_any (a b : Value) (l1 l2 : List StemD) (w : World) (ha : Stems w a l1) (hb : Stems w b l2) :
    Calls Tryd.prog 37 #[a, b] w fun e w' => e = .returned (.bool (decide (l1 = l2))) ∧ Below w.heap.size w w' := by
  obtain ⟨a1, c1, rfl, h1, h1', h1c⟩ := ha.shape
  obtain ⟨a2, c2, rfl, h2, h2', h2c⟩ := hb.shape
  clear ha hb
  unfold maxLen at h1' h2'
  by_cases hlen : l1.length = l2.length
  · have Hlen := Lib.hid hlen
    have hl0 : ((l1.length : Int) != (l2.length : Int)) = false := by rw [bne_eq_false_iff_eq]; omega
    clear hlen
    go_enter Tryd.func37, Tryd.ntmps37
    go_wp2
    go_loopw [5] (fun i wr => ∃ k : Nat, k ≤ l1.length ∧ i = .int .i64 k ∧ Hid (l1.take k = l2.take k) ∧ Hid (Below w.heap.size w wr)) (fun i _ => l1.length - (intOf i).toNat)
    case atStart => exact ⟨0, Nat.zero_le _, rfl, Lib.hid rfl, Lib.hid (Below.refl _ _)⟩
    case round =>
      obtain ⟨k, hk, rfl, Heq, HB⟩ := hrel
      by_cases hlt : k < l1.length
      · have hlt2 : k < l2.length := by have := Hlen.out; omega
        obtain ⟨b1, o1, u1, rfl, k0, k1, -, hu1⟩ := h1c k hlt
        obtain ⟨b2, o2, u2, rfl, k2, k3, -, hu2⟩ := h2c k hlt2
        have HU1 := Lib.hid (hu1.below HB.out)
        have HU2 := Lib.hid (hu2.below HB.out)
        clear hu1 hu2
        have f0 : wr.cell? ⟨b1, o1 + k * 2, none⟩ = some (.string l1[k].word) := cell_below HB.out k0
        have f1 : wr.cell? ⟨b1, o1 + k * 2 + 1, none⟩ = some (u1) := cell_below HB.out k1
        have f2 : wr.cell? ⟨b2, o2 + k * 2, none⟩ = some (.string l2[k].word) := cell_below HB.out k2
        have f3 : wr.cell? ⟨b2, o2 + k * 2 + 1, none⟩ = some (u2) := cell_below HB.out k3
        have hI0 : (0 : Int) ≤ (k : Int) := by omega
        have hI1 : (k : Int) < (l1.length : Int) := by omega
        have hI2 : (k : Int) < (l2.length : Int) := by omega
        clear k0 k1 k2 k3 h1c h2c
        go_wp2_with fail
        go_region_held3 (fun w' => w'.cell? ⟨b1, o1 + k * 2, none⟩ = some (.string l1[k].word) ∧ w'.cell? ⟨b1, o1 + k * 2 + 1, none⟩ = some (u1) ∧ w'.cell? ⟨b2, o2 + k * 2, none⟩ = some (.string l2[k].word) ∧ w'.cell? ⟨b2, o2 + k * 2 + 1, none⟩ = some (u2) ∧ Below wr.heap.size wr w')
          (first | exact ⟨f0, f1, f2, f3, (Below.refl _ _).drew⟩ | exact keepC hbk (by assumption) fun h => keepC hbk h fun h => keepC hbk h fun h => keepC hbk h fun h => keepE hbk h)
          (first | (go_at_call 81; refine (eqStem_any l1[k] l2[k] u1 u2 _ ((fun (h : _ ∧ _ ∧ _ ∧ _ ∧ Below wr.heap.size wr _) => HU1.out.below h.2.2.2.2) (by assumption)) ((fun (h : _ ∧ _ ∧ _ ∧ _ ∧ Below wr.heap.size wr _) => HU2.out.below h.2.2.2.2) (by assumption))).mono ?_; rintro e w2 ⟨rfl, hbk⟩))
        have hb2 := (by assumption : _ ∧ _ ∧ _ ∧ _ ∧ Below wr.heap.size wr w2).2.2.2.2
        have HB2 := Lib.hid (HB.out.trans (hb2.mono HB.out.size))
        clear hb2 f0 f1 f2 f3
        cases hd : decide (l1[k] = l2[k])
        · have Hd := Lib.hid hd
          go_wp2
          go_ret
          exact ⟨ret_bool (by rw [eq_comm, decide_eq_false_iff_not]; rintro rfl; have := Hd.out; simp at this), HB2.out⟩
        · have Hd := Lib.hid (of_decide_eq_true hd)
          go_wp2
          go_roundw
          case rel => exact ⟨k + 1, by omega, by go_num, Lib.hid (take_eq_succ Heq.out hlt hlt2 Hd.out), HB2⟩
          case measure => simp [intOf]; omega
      · go_wp2
        go_ret
        refine ⟨ret_bool ?_, HB.out⟩
        rw [eq_comm, decide_eq_true_iff]
        have h := Heq.out
        rwa [List.take_of_length_le (by omega), List.take_of_length_le (by have := Hlen.out; omega)] at h
  · have hl0 : ((l1.length : Int) != (l2.length : Int)) = true := by rw [bne_iff_ne]; omega
    have H := Lib.hid hlen
    clear hlen
    go_enter Tryd.func37, Tryd.ntmps37
    go_wp2
    go_ret
    exact ⟨ret_bool (by rw [eq_comm, decide_eq_false_iff_not]; rintro rfl; exact H.out rfl), Below.refl _ _⟩
theorem graD_eq (x y : GraD) : decide (x = y) = (decide (x.affixes = y.affixes) && decide (x.stems = y.stems)) := by
  cases x; cases y; simp
set_option maxHeartbeats 2000000 in
theorem eqGrammar_any (a b : Value) (x y : GraD) (w : World) (ha : GraR w a x) (hb : GraR w b y) :
    Calls Tryd.prog 12 #[a, b] w fun e w' => e = .returned (.bool (decide (x = y))) ∧ Below w.heap.size w w' := by
  obtain ⟨s1, s2, rfl, h1, h2⟩ := ha
  obtain ⟨t1, t2, rfl, g1, g2⟩ := hb
  have hb0 : Below w.heap.size w ((w.alloc (.cells #[s1, s2] 31)).alloc (.cells #[t1, t2] 31)) := ((Below.refl _ _).alloc (Nat.le_refl _) _).alloc (by simp) _
  have c1 := cell_alloc (.cells #[t1, t2] 31) (cell_newi w #[s1, s2] 31 1 s2 rfl)
  have d1 := cell_newi (w.alloc (.cells #[s1, s2] 31)) #[t1, t2] 31 1 t2 rfl
  rw [World.size_alloc] at d1
  rw [graD_eq]
  go_enter Tryd.func12, Tryd.ntmps12
  go_wp2_with fail
  refine (eqAffixS_any s1 t1 x.affixes y.affixes _ (h1.below hb0) (g1.below hb0)).mono ?_
  rintro e w1 ⟨rfl, hb1⟩
  have hbb := hb0.trans (hb1.mono hb0.size)
  have c2 := cell_below hb1 c1
  have d2 := cell_below hb1 d1
  clear c1 d1 hb1
  cases hd : decide (x.affixes = y.affixes)
  · have HD := Lib.hid hd
    go_wp2
    go_ret
    exact ⟨ret_bool (by rw [HD.out]; rfl), hbb⟩
  · have HD := Lib.hid hd
    clear hd
    go_wp2_with fail
    refine (eqStemS_any s2 t2 x.stems y.stems _ (h2.below hbb) (g2.below hbb)).mono ?_
    rintro e w2 ⟨rfl, hb2⟩
    have hbb2 := hbb.trans (hb2.mono hbb.size)
    cases hd2 : decide (x.stems = y.stems)
    · have HD2 := Lib.hid hd2
      go_wp2
      go_ret
      exact ⟨ret_bool (by rw [HD.out, HD2.out]; rfl), hbb2⟩
    · have HD2 := Lib.hid hd2
      go_wp2
      go_ret
      exact ⟨ret_bool (by rw [HD.out, HD2.out]; rfl), hbb2⟩
/-! ### making a row of structs -/
theorem toList_made (z : Array Value) (n : Nat) (hz : 0 < z.size) : (madeCells z (n * z.size)).toList = (List.replicate n z.toList).flatten := by
  apply List.ext_getElem?
  intro j
  have hl : ∀ n, ((List.replicate n z.toList).flatten).length = n * z.size := by intro n; simp
  by_cases hj : j < n * z.size
  · have hq : j / z.size < n := by rw [Nat.div_lt_iff_lt_mul hz]; exact hj
    have hr : j % z.size < z.size := Nat.mod_lt _ hz
    have hjq : j / z.size * z.size + j % z.size = j := by rw [Nat.mul_comm]; exact Nat.div_add_mod j _
    have h1 : (madeCells z (n * z.size)).toList[j]? = some z[j % z.size] := by
      unfold madeCells
      simp [hj, hr]
    have h2 : ((List.replicate n z.toList).flatten)[j]? = some z[j % z.size] := by
      have := flat_get (fun (_ : Unit) => z.toList) z.size (by simp) (List.replicate n ()) (j / z.size) (by simpa using hq) (j % z.size) hr
      rw [hjq] at this
      rw [List.flatMap_def, List.map_replicate] at this
      rw [this]
      simp [hr]
    rw [h1, h2]
  · rw [List.getElem?_eq_none (by rw [Array.length_toList, size_madeCells]; omega), List.getElem?_eq_none (by rw [hl]; omega)]
/-- A store into a row that is written out. -/
theorem SlW.setC {w : World} {lo hi e sz g off n c : Nat} {xs : List Value} (h : SlW w lo hi e sz (.slice (some ⟨g, off, none⟩) n c) n xs) {j : Nat} (hj : j < n * sz) (u : Value) : SlW (w.setCell ⟨g, off + j, none⟩ u) lo hi e sz (.slice (some ⟨g, off, none⟩) n c) n (xs.set j u) := by
  obtain ⟨a', c', e', _, _, g', off', rfl, _, _, _, _, _, hst⟩ := h.store hj
  injection e' with e1 e2 e3
  injection e1 with e1
  injection e1 with e4 e5 e6
  subst e4; subst e5; subst e3
  exact hst u
theorem SlW.at {w : World} {lo hi e sz g off n c : Nat} {xs : List Value} (h : SlW w lo hi e sz (.slice (some ⟨g, off, none⟩) n c) n xs) {j : Nat} (hj : j < n * sz) : w.cell? ⟨g, off + j, none⟩ = xs[j]? ∧ w.frozen? ⟨g, off + j, none⟩ = false ∧ lo ≤ g ∧ g < hi := by
  obtain ⟨a', c', e', _, _, g', off', rfl, h1, h2, _, h3, h4, _⟩ := h.store hj
  injection e' with e1 e2 e3
  injection e1 with e1
  injection e1 with e4 e5 e6
  subst e4; subst e5; subst e3
  exact ⟨h3, h4, h1, h2⟩
end Go.Proofs.YtgefgdkejenhnaaDoor
