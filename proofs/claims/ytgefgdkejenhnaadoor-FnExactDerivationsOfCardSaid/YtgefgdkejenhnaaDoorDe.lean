/- Derivations as arguments: how one is opened; szDerivation, toDerivation, eqDerivation. No condition but the readings. -/
import Derived.Test.YtgefgdkejenhnaaDoorWoL
namespace Go.Proofs.YtgefgdkejenhnaaDoor
open Go.ChangeShapes Go.WideShapes Go.ChangeAt Go.RowKit
def DerR (w : World) (v : Value) (x : DerD) : Prop := ∃ u, v = .agg #[.string x.stem, u] ∧ x.stem.size ≤ maxLen ∧ Strs w u x.affixes
def DerW (w : World) (lo hi : Nat) (v : Value) (x : DerD) : Prop := ∃ u, v = .agg #[.string x.stem, u] ∧ x.stem.size ≤ maxLen ∧ StrsW w lo hi u x.affixes
theorem DerR.below {w w' : World} {v x} (h : DerR w v x) (hb : Below w.heap.size w w') : DerR w' v x := by obtain ⟨s, e, h1, h2⟩ := h; exact ⟨s, e, h1, h2.below hb⟩
theorem DerW.below {w w' : World} {lo hi v x} (h : DerW w lo hi v x) (hb : Below w.heap.size w w') : DerW w' lo hi v x := by obtain ⟨s, e, h1, h2⟩ := h; exact ⟨s, e, h1, h2.below hb⟩
theorem DerW.kept {w w' : World} {lo hi lo' hi' v x} (h : DerW w lo hi v x) (hb : Kept lo' hi' w w') (hd : hi ≤ lo' ∨ hi' ≤ lo) : DerW w' lo hi v x := by obtain ⟨s, e, h1, h2⟩ := h; exact ⟨s, e, h1, h2.kept hb hd⟩
theorem DerW.read {w : World} {lo hi v x} (h : DerW w lo hi v x) : DerR w v x := by obtain ⟨s, e, h1, h2⟩ := h; exact ⟨s, e, h1, h2.read⟩
theorem DerW.mono {w : World} {lo hi lo' hi' v x} (h : DerW w lo hi v x) (hl : lo' ≤ lo) (hh : hi ≤ hi') : DerW w lo' hi' v x := by obtain ⟨s, e, h1, h2⟩ := h; exact ⟨s, e, h1, h2.mono hl hh⟩
theorem DerR.shape {w : World} {v x} (h : DerR w v x) : ∃ a c, v = .agg #[.string x.stem, .slice a x.affixes.length c] := by
  obtain ⟨s, rfl, -, h2⟩ := h
  obtain ⟨a, c, rfl, _⟩ := h2.shape
  exact ⟨a, c, rfl⟩
theorem DerW.shape {w : World} {lo hi v x} (h : DerW w lo hi v x) : ∃ a c, v = .agg #[.string x.stem, .slice a x.affixes.length c] := h.read.shape
set_option maxRecDepth 100000 in
theorem open_Derivation {H : Type} {enc : TypeId × Value → H} {held : Bool} {W : World} {b0 : Nat} {v : Value} {d : DataW H} {p : List MemPlace}
    (hv : Value.okWide Tryd.prog W .any b0 37 v) (h : DataW.Trod enc Tryd.prog W 0 (fun _ => true) held 37 v d p) : ∃ x, DerR W v x := by
  obtain ⟨v0, v1, y0, y1, n, rfl, -, -, h0, h1⟩ := Joins.open_agg2 Tryd.underlying37 (by kernel_rfl) (by kernel_rfl) hv h
  obtain ⟨s0, e0, -, w0⟩ := DataW.trod_string Tryd.underlying9 h0
  obtain ⟨l, hl⟩ := strs_of_trod Tryd.underlying35 Tryd.underlying9 (by kernel_rfl) h1
  obtain rfl : v0 = .string s0 := by simpa using e0
  exact ⟨⟨s0, l⟩, v1, rfl, w0, hl⟩
def szDerR (x : DerD) : Nat := x.stem.size + szL x.affixes
structure DerLim (x : DerD) : Prop where
  w : x.stem.size ≤ 1048576
  u : x.affixes.length ≤ 1048576
theorem szNDerivation {x : DerD} {n : Nat} (h : szDerR x ≤ n) (hn : n ≤ 1048576) : DerLim x := by unfold szDerR szL at h; exact ⟨by omega, by omega⟩
theorem infoDer : (Tryd.prog.info? 41).map (·.size) = some 2 := by kernel_rfl
set_option maxHeartbeats 1000000 in
theorem szDer_any (x : DerD) (u : Value) (z : Int) (left : Nat) (w : World) (hw : x.stem.size ≤ maxLen) (hu : Strs w u x.affixes) (hz : z = (left : Int)) (hleft : left ≤ 1048576) :
    Calls Tryd.prog 13 #[.agg #[.string x.stem, u], .int .i64 z] w fun e w' => ((szDerR x ≤ left ∧ e = .returned (.int .i64 ((left - szDerR x : Nat) : Int))) ∨ (left < szDerR x ∧ e = .returned (.int .i64 (-1)))) ∧ Below w.heap.size w w' := by
  subst hz
  unfold maxLen at hw
  have hb0 : Below w.heap.size w (w.alloc (.cells #[.string x.stem, u] 37)) := (Below.refl _ _).alloc (Nat.le_refl _) _
  by_cases h1 : x.stem.size ≤ left
  · go_enter Tryd.func13, Tryd.ntmps13
    go_wp2_with fail
    have e1 : (left : Int) - (x.stem.size : Int) = ((left - x.stem.size : Nat) : Int) := by omega
    rw [e1]
    refine (szStringS_any u x.affixes (left - x.stem.size) _ (hu.below hb0) (by omega)).mono ?_
    rintro e w2 ⟨⟨hle, rfl⟩ | ⟨hgt, rfl⟩, hb2⟩
    · have hbb := hb0.trans (hb2.mono hb0.size)
      have Hle := Lib.hid hle
      have e2 : left - x.stem.size - szL x.affixes = left - szDerR x := by unfold szDerR; omega
      rw [e2]
      have hnn : ¬ (((left - szDerR x : Nat) : Int) < 0) := by omega
      clear hb2 hle e2
      go_wp2
      go_ret
      exact ⟨.inl ⟨by have := Hle.out; unfold szDerR; omega, rfl⟩, hbb⟩
    · have hbb := hb0.trans (hb2.mono hb0.size)
      go_wp2
      go_ret
      exact ⟨.inr ⟨by unfold szDerR; omega, rfl⟩, hbb⟩
  · go_enter Tryd.func13, Tryd.ntmps13
    go_wp2
    go_ret
    exact ⟨.inr ⟨by unfold szDerR; omega, rfl⟩, hb0⟩
theorem derD_eq (x y : DerD) : decide (x = y) = (decide (x.stem = y.stem) && decide (x.affixes = y.affixes)) := by
  cases x; cases y; simp
set_option maxHeartbeats 2000000 in
theorem eqDer_any (x y : DerD) (u v : Value) (w : World) (hu : Strs w u x.affixes) (hv : Strs w v y.affixes) :
    Calls Tryd.prog 17 #[.agg #[.string x.stem, u], .agg #[.string y.stem, v]] w fun e w' => e = .returned (.bool (decide (x = y))) ∧ Below w.heap.size w w' := by
  have hb0 : Below w.heap.size w ((w.alloc (.cells #[.string x.stem, u] 41)).alloc (.cells #[.string y.stem, v] 41)) := ((Below.refl _ _).alloc (Nat.le_refl _) _).alloc (by simp) _
  rw [derD_eq]
  cases h0 : (x.stem.toList == y.stem.toList)
  · have H0 := Lib.hid h0
    go_enter Tryd.func17, Tryd.ntmps17
    go_wp2
    go_ret
    exact ⟨ret_bool (by rw [decide_eq_false (bytes_ne_of H0.out)]; rfl), hb0⟩
  · have E0 := Lib.hid (bytes_eq_of h0)
    go_enter Tryd.func17, Tryd.ntmps17
    go_wp2_with fail
    refine (eqStringS_any u v x.affixes y.affixes _ (hu.below hb0) (hv.below hb0)).mono ?_
    rintro e w1 ⟨rfl, hb1⟩
    have hbb := hb0.trans (hb1.mono hb0.size)
    cases hd : decide (x.affixes = y.affixes)
    · have HD := Lib.hid hd
      go_wp2
      go_ret
      exact ⟨ret_bool (by rw [decide_eq_true E0.out, Bool.true_and, HD.out]), hbb⟩
    · have HD := Lib.hid hd
      go_wp2
      go_ret
      exact ⟨ret_bool (by rw [decide_eq_true E0.out, Bool.true_and, HD.out]), hbb⟩
set_option maxHeartbeats 4000000 in
set_option maxRecDepth 20000 in
theorem toDer_any (x : DerD) (u : Value) (w : World) (hu : Strs w u x.affixes) (hn : x.affixes.length ≤ 1048576) :
    Calls Tryd.prog 15 #[.agg #[.string x.stem, u]] w fun e w' => ∃ u', e = .returned (.agg #[.string x.stem, u']) ∧ StrsW w' w.heap.size w'.heap.size u' x.affixes ∧ Below w.heap.size w w' := by
  have hb0 : Below w.heap.size w (((w.alloc (.cells #[.string x.stem, u] 37)).alloc (.cells #[.string ⟨#[]⟩, .slice none 0 0] 41)).alloc (.cells #[.string x.stem, .slice none 0 0] 41)) := (((Below.refl _ _).alloc (Nat.le_refl _) _).alloc (by simp) _).alloc (by simp; omega) _
  have r1 := heap3_1 w (.cells #[.string x.stem, u] 37) (.cells #[.string ⟨#[]⟩, .slice none 0 0] 41) (.cells #[.string x.stem, .slice none 0 0] 41)
  have r2 := heap3_2 w (.cells #[.string x.stem, u] 37) (.cells #[.string ⟨#[]⟩, .slice none 0 0] 41) (.cells #[.string x.stem, .slice none 0 0] 41)
  have HB0 := Lib.hid hb0
  go_enter Tryd.func15, Tryd.ntmps15
  go_wp2_with fail
  refine (toStringS_any u x.affixes _ (hu.below hb0) hn).mono ?_
  rintro e w1 ⟨u', rfl, hu', hb1⟩
  obtain ⟨ua, uc, rfl, -, -, -⟩ := hu'.read.shape
  have hz1 : w.heap.size + 3 ≤ w1.heap.size := by have := hb1.size; simpa using this
  have R1 := Lib.hid ((hb1.block (w.heap.size + 1) (by simp)).trans r1)
  have R2 := Lib.hid ((hb1.block (w.heap.size + 1 + 1) (by simp)).trans r2)
  have HB1 := Lib.hid (HB0.out.trans (hb1.mono HB0.out.size))
  have HU := Lib.hid (hu'.mono (lo' := w.heap.size + 3) (hi' := w1.heap.size) (by simp) (Nat.le_refl _))
  obtain ⟨d0, y0⟩ := cell_of_heap (i := 0) (v := .string x.stem) R2.out rfl
  obtain ⟨d1, y1⟩ := cell_of_heap (i := 1) (v := .slice none 0 0) R2.out rfl
  obtain ⟨e0, z0⟩ := cell_of_heap (i := 0) (v := .string ⟨#[]⟩) R1.out rfl
  obtain ⟨e1, z1⟩ := cell_of_heap (i := 1) (v := .slice none 0 0) R1.out rfl
  have n1 : ¬ (w.heap.size + 1 = w.heap.size + 1 + 1) := by omega
  have n2 : ¬ (w.heap.size + 1 + 1 = w.heap.size + 1) := by omega
  clear hb1 hu' r1 r2 hb0
  go_wp2
  have hk3 : Kept (w.heap.size + 1 + 1) (w.heap.size + 1 + 1 + 1) w1 (w1.setCell ⟨w.heap.size + 1 + 1, 1, none⟩ (.slice ua x.affixes.length uc)) := kept_setCell (Nat.le_refl _) (Nat.lt_succ_self _) _
  have st := store2 ((hk3.block (w.heap.size + 1) (by omega) (.inl (by omega))).trans R1.out) (.string x.stem) (.slice ua x.affixes.length uc)
  refine bodyPost_ret (v := .agg #[.string x.stem, (.slice ua x.affixes.length uc)]) (results_cell_row (p := 2) (ty := 41) rfl _ _ (w.heap.size + 1) _ _ _ _ rfl st.1 Tryd.underlying41 rfl infoDer) rfl
    ⟨.slice ua x.affixes.length uc, rfl, ((HU.out.kept hk3 (.inr (by omega))).kept st.2.1 (.inr (by omega))).mono (by omega) (by rw [st.2.2]; exact hk3.size), (HB1.out.trans (hk3.below (by omega) HB1.out.size)).trans (st.2.1.below (by omega) (by have := HB1.out.size; have := hk3.size; omega))⟩

theorem szDerivation_any (v : Value) (x : DerD) (z : Int) (left : Nat) (w : World) (hv : DerR w v x) (hz : z = (left : Int)) (hleft : left ≤ 1048576) :
    Calls Tryd.prog 13 #[v, .int .i64 z] w fun e w' => ((szDerR x ≤ left ∧ e = .returned (.int .i64 ((left - szDerR x : Nat) : Int))) ∨ (left < szDerR x ∧ e = .returned (.int .i64 (-1)))) ∧ Below w.heap.size w w' := by
  obtain ⟨u, rfl, h1, h2⟩ := hv
  exact szDer_any x u z left w h1 h2 hz hleft
theorem toDerivation_any (v : Value) (x : DerD) (w : World) (hv : DerR w v x) (hn : DerLim x) :
    Calls Tryd.prog 15 #[v] w fun e w' => ∃ s, e = .returned s ∧ DerW w' w.heap.size w'.heap.size s x ∧ Below w.heap.size w w' := by
  obtain ⟨u, rfl, h1, h2⟩ := hv
  exact (toDer_any x u w h2 hn.u).mono fun e w' ⟨u', he, hu', hb⟩ => ⟨_, he, ⟨u', rfl, h1, hu'⟩, hb⟩
theorem eqDerivation_any (a b : Value) (x y : DerD) (w : World) (ha : DerR w a x) (hb : DerR w b y) :
    Calls Tryd.prog 17 #[a, b] w fun e w' => e = .returned (.bool (decide (x = y))) ∧ Below w.heap.size w w' := by
  obtain ⟨u, rfl, _, h2⟩ := ha
  obtain ⟨v, rfl, _, k2⟩ := hb
  exact eqDer_any x y u v w h2 k2
end Go.Proofs.YtgefgdkejenhnaaDoor
