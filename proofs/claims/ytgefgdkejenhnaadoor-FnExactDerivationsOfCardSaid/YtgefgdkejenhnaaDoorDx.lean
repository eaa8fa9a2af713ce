/- eqDerivationS; lists of derivations as results, each list in a block of its own. No condition but the readings. -/
import Derived.Test.YtgefgdkejenhnaaDoorMk
set_option linter.unusedSimpArgs false
namespace Go.Proofs.YtgefgdkejenhnaaDoor
open Go.RowKit
attribute [local irreducible] Calls
set_option maxHeartbeats 2000000 in
theorem eqDerX_any (x y : StemD) (u v : Value) (w : World) (hu : Strs w u x.uses) (hv : Strs w v y.uses) :
    Calls Tryd.prog 17 #[.agg #[.string x.word, u], .agg #[.string y.word, v]] w fun e w' => e = .returned (.bool (decide (x = y))) ∧ Below w.heap.size w w' := by
  have hb0 : Below w.heap.size w ((w.alloc (.cells #[.string x.word, u] 41)).alloc (.cells #[.string y.word, v] 41)) := ((Below.refl _ _).alloc (Nat.le_refl _) _).alloc (by simp) _
  rw [stemD_eq]
  cases h0 : (x.word.toList == y.word.toList)
  · have H0 := Lib.hid h0
    go_enter Tryd.func17, Tryd.ntmps17
    go_wp2
    go_ret
    exact ⟨ret_bool (by rw [decide_eq_false (bytes_ne_of H0.out)]; rfl), hb0⟩
  · have E0 := Lib.hid (bytes_eq_of h0)
    go_enter Tryd.func17, Tryd.ntmps17
    go_wp2_with fail
    refine (eqStringS_any u v x.uses y.uses _ (hu.below hb0) (hv.below hb0)).mono ?_
    rintro e w1 ⟨rfl, hb1⟩
    have hbb := hb0.trans (hb1.mono hb0.size)
    cases hd : decide (x.uses = y.uses)
    · have HD := Lib.hid hd
      go_wp2
      go_ret
      exact ⟨ret_bool (by rw [decide_eq_true E0.out, Bool.true_and, HD.out]), hbb⟩
    · have HD := Lib.hid hd
      go_wp2
      go_ret
      exact ⟨ret_bool (by rw [decide_eq_true E0.out, Bool.true_and, HD.out]), hbb⟩
set_option maxHeartbeats 4000000 in
set_option maxRecDepth 20000 in
theorem eqDerivationS_any (a b : Value) (l1 l2 : List StemD) (w : World) (ha : Stems w a l1) (hb : Stems w b l2) :
    Calls Tryd.prog 20 #[a, b] w fun e w' => e = .returned (.bool (decide (l1 = l2))) ∧ Below w.heap.size w w' := by
  obtain ⟨a1, c1, rfl, h1, h1', h1c⟩ := ha.shape
  obtain ⟨a2, c2, rfl, h2, h2', h2c⟩ := hb.shape
  clear ha hb
  unfold maxLen at h1' h2'
  by_cases hlen : l1.length = l2.length
  · have Hlen := Lib.hid hlen
    have hl0 : ((l1.length : Int) != (l2.length : Int)) = false := by rw [bne_eq_false_iff_eq]; omega
    clear hlen
    go_enter Tryd.func20, Tryd.ntmps20
    go_wp2
    go_loopw [5] (fun i wr => ∃ k : Nat, k ≤ l1.length ∧ i = .int .i64 k ∧ Hid (l1.take k = l2.take k) ∧ Hid (Below w.heap.size w wr)) (fun i _ => l1.length - (intOf i).toNat)
    case atStart => exact ⟨0, Nat.zero_le _, rfl, Lib.hid rfl, Lib.hid (Below.refl _ _)⟩
    case round =>
      obtain ⟨k, hk, rfl, Heq, HB⟩ := hrel
      by_cases hlt : k < l1.length
      · have hlt2 : k < l2.length := by have := Hlen.out; omega
        obtain ⟨b1, o1, u1, rfl, k0, k1, -, hu1⟩ := h1c k hlt
        obtain ⟨b2, o2, u2, rfl, k2, k3, -, hu2⟩ := h2c k hlt2
        have HU1 := Lib.hid (hu1.below HB.out)
        have HU2 := Lib.hid (hu2.below HB.out)
        clear hu1 hu2
        have f0 : wr.cell? ⟨b1, o1 + k * 2, none⟩ = some (.string l1[k].word) := cell_below HB.out k0
        have f1 : wr.cell? ⟨b1, o1 + k * 2 + 1, none⟩ = some (u1) := cell_below HB.out k1
        have f2 : wr.cell? ⟨b2, o2 + k * 2, none⟩ = some (.string l2[k].word) := cell_below HB.out k2
        have f3 : wr.cell? ⟨b2, o2 + k * 2 + 1, none⟩ = some (u2) := cell_below HB.out k3
        have hI0 : (0 : Int) ≤ (k : Int) := by omega
        have hI1 : (k : Int) < (l1.length : Int) := by omega
        have hI2 : (k : Int) < (l2.length : Int) := by omega
        clear k0 k1 k2 k3 h1c h2c
        go_wp2_with fail
        go_region_held3 (fun w' => w'.cell? ⟨b1, o1 + k * 2, none⟩ = some (.string l1[k].word) ∧ w'.cell? ⟨b1, o1 + k * 2 + 1, none⟩ = some (u1) ∧ w'.cell? ⟨b2, o2 + k * 2, none⟩ = some (.string l2[k].word) ∧ w'.cell? ⟨b2, o2 + k * 2 + 1, none⟩ = some (u2) ∧ Below wr.heap.size wr w')
          (first | exact ⟨f0, f1, f2, f3, (Below.refl _ _).drew⟩ | exact keepC hbk (by assumption) fun h => keepC hbk h fun h => keepC hbk h fun h => keepC hbk h fun h => keepE hbk h)
          (first | (go_at_call 17; refine (eqDerX_any l1[k] l2[k] u1 u2 _ ((fun (h : _ ∧ _ ∧ _ ∧ _ ∧ Below wr.heap.size wr _) => HU1.out.below h.2.2.2.2) (by assumption)) ((fun (h : _ ∧ _ ∧ _ ∧ _ ∧ Below wr.heap.size wr _) => HU2.out.below h.2.2.2.2) (by assumption))).mono ?_; rintro e w2 ⟨rfl, hbk⟩))
        have hb2 := (by assumption : _ ∧ _ ∧ _ ∧ _ ∧ Below wr.heap.size wr w2).2.2.2.2
        have HB2 := Lib.hid (HB.out.trans (hb2.mono HB.out.size))
        clear hb2 f0 f1 f2 f3
        cases hd : decide (l1[k] = l2[k])
        · have Hd := Lib.hid hd
          go_wp2
          go_ret
          exact ⟨ret_bool (by rw [eq_comm, decide_eq_false_iff_not]; rintro rfl; have := Hd.out; simp at this), HB2.out⟩
        · have Hd := Lib.hid (of_decide_eq_true hd)
          go_wp2
          go_roundw
          case rel => exact ⟨k + 1, by omega, by go_num, Lib.hid (take_eq_succ Heq.out hlt hlt2 Hd.out), HB2⟩
          case measure => simp [intOf]; omega
      · go_wp2
        go_ret
        refine ⟨ret_bool ?_, HB.out⟩
        rw [eq_comm, decide_eq_true_iff]
        have h := Heq.out
        rwa [List.take_of_length_le (by omega), List.take_of_length_le (by have := Hlen.out; omega)] at h
  · have hl0 : ((l1.length : Int) != (l2.length : Int)) = true := by rw [bne_iff_ne]; omega
    have H := Lib.hid hlen
    clear hlen
    go_enter Tryd.func20, Tryd.ntmps20
    go_wp2
    go_ret
    exact ⟨ret_bool (by rw [eq_comm, decide_eq_false_iff_not]; rintro rfl; exact H.out rfl), Below.refl _ _⟩
/-- A list of derivations of the call's own. -/
def DersX (w : World) (lo hi : Nat) (v : Value) (l : List StemD) : Prop := ∃ og q us, StX 41 w og q us v l ∧ (lo ≤ og ∧ og < hi) ∧ ∀ j, j < l.length → lo ≤ q j ∧ q j < hi
theorem DersX.read {w : World} {lo hi v l} (h : DersX w lo hi v l) : Stems w v l := by obtain ⟨og, q, us, h1, _⟩ := h; exact h1.stems
theorem DersX.below {w w' : World} {lo hi v l} (h : DersX w lo hi v l) (hb : Below w.heap.size w w') : DersX w' lo hi v l := by
  obtain ⟨og, q, us, h1, h2⟩ := h; exact ⟨og, q, us, h1.below hb, h2⟩
theorem DersX.kept {w w' : World} {lo hi lo' hi' v l} (h : DersX w lo hi v l) (hb : Kept lo' hi' w w') (hd : hi ≤ lo' ∨ hi' ≤ lo) : DersX w' lo hi v l := by
  obtain ⟨og, q, us, h1, h2, h3⟩ := h
  exact ⟨og, q, us, h1.kept hb (by omega) (fun j hj => by have := h3 j hj; omega), h2, h3⟩
theorem DersX.mono {w : World} {lo hi lo' hi' v l} (h : DersX w lo hi v l) (hl : lo' ≤ lo) (hh : hi ≤ hi') : DersX w lo' hi' v l := by
  obtain ⟨og, q, us, h1, h2, h3⟩ := h
  exact ⟨og, q, us, h1, by omega, fun j hj => by have := h3 j hj; omega⟩
theorem DersX.nil (w : World) {lo hi : Nat} (h : lo < hi) : DersX w lo hi (.slice none 0 0) [] :=
  ⟨lo, fun _ => 0, [], ⟨rfl, ⟨rfl, none, 0, rfl, Nat.le_refl _, by unfold maxLen; omega, .inl rfl⟩, by simp, fun j h => by simp at h, fun j h => by simp at h, fun i j h => by simp at h⟩, ⟨Nat.le_refl _, h⟩, fun j h => by simp at h⟩
theorem markDersX_any (v : Value) (l : List StemD) (k : Int) (lo hi : Nat) (w : World) (hv : DersX w lo hi v l) (hk0 : 0 ≤ k) (hk1 : k + useN l ≤ 9223372036854775000) :
    Calls Tryd.prog 22 #[v, .int .i64 k] w fun e w' => e = .returned (.int .i64 (k + useN l)) ∧ DersX w' lo hi v (mkS k l) ∧ Kept lo hi w w' := by
  obtain ⟨og, q, us, h1, h2, h3⟩ := hv
  refine (markDerivationS_any v l us og q lo hi k w h1 h2 h3 hk0 hk1).mono ?_
  rintro e w' ⟨rfl, hm, hk, -⟩
  exact ⟨rfl, ⟨og, q, us, hm, h2, fun j hj => h3 j (by rwa [mkS_len] at hj)⟩, hk⟩
end Go.Proofs.YtgefgdkejenhnaaDoor
