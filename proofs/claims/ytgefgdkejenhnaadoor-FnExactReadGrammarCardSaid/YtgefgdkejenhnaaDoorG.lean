/- Affixes as arguments: how one is opened; szAffix, toAffix. No condition but the readings. -/
import Derived.Test.YtgefgdkejenhnaaDoorL
import Derived.Lib.SmallJoins
import Derived.Deep.Fields
namespace Go.Proofs.YtgefgdkejenhnaaDoor
open Go.Joins Go.ChangeShapes Go.WideShapes Go.ChangeAt Go.RowKit Go.Deep
/-- What an affix holds. -/
structure AffD where
  name : ByteArray
  front : Bool
  cond : ByteArray
  strip : ByteArray
  add : ByteArray
deriving DecidableEq
structure AffLim (x : AffD) (m : Nat) : Prop where
  n : x.name.size ≤ m
  c : x.cond.size ≤ m
  s : x.strip.size ≤ m
  a : x.add.size ≤ m
theorem AffLim.mono {x : AffD} {m k : Nat} (h : AffLim x m) (hk : m ≤ k) : AffLim x k := ⟨Nat.le_trans h.n hk, Nat.le_trans h.c hk, Nat.le_trans h.s hk, Nat.le_trans h.a hk⟩
def AffR (_w : World) (v : Value) (x : AffD) : Prop := v = .agg #[.string x.name, .bool x.front, .string x.cond, .string x.strip, .string x.add] ∧ AffLim x maxLen
def AffW (_w : World) (_lo _hi : Nat) (v : Value) (x : AffD) : Prop := v = .agg #[.string x.name, .bool x.front, .string x.cond, .string x.strip, .string x.add] ∧ AffLim x maxLen
theorem AffR.below {w w' : World} {v x} (h : AffR w v x) (_hb : Below w.heap.size w w') : AffR w' v x := h
theorem AffW.below {w w' : World} {lo hi v x} (h : AffW w lo hi v x) (_hb : Below w.heap.size w w') : AffW w' lo hi v x := h
theorem AffW.read {w : World} {lo hi v x} (h : AffW w lo hi v x) : AffR w v x := h
theorem AffR.shape {w : World} {v x} (h : AffR w v x) : v = .agg #[.string x.name, .bool x.front, .string x.cond, .string x.strip, .string x.add] := h.1
theorem AffW.shape {w : World} {lo hi v x} (h : AffW w lo hi v x) : v = .agg #[.string x.name, .bool x.front, .string x.cond, .string x.strip, .string x.add] := h.1
section
variable {H : Type} {enc : TypeId × Value → H} {P : Program} {w : World} {base : Nat} {spare : Nat → Bool} {held : Bool}
/-- A struct of five one-cell fields, by value. -/
theorem agg5_open {r : Reach} {b0 : Nat} {t : TypeId} {f0 f1 f2 f3 f4 : Field} {v : Value} {d : DataW H} {p : List MemPlace} (hs : P.underlying t = some (.struct #[f0, f1, f2, f3, f4])) (hone : oneCellFields P #[f0, f1, f2, f3, f4] = true) (hC : P.cellsOf t = 5)
    (hv : Value.okWide P w r b0 t v) (h : DataW.Trod enc P w base spare held t v d p) :
    ∃ (v0 v1 v2 v3 v4 : Value) (y0 y1 y2 y3 y4 : DataW H × List MemPlace) (n : Nat), v = .agg #[v0, v1, v2, v3, v4] ∧
      DataW.trod enc P w base spare held n f0.type [v0] = some y0 ∧ DataW.trod enc P w base spare held n f1.type [v1] = some y1 ∧ DataW.trod enc P w base spare held n f2.type [v2] = some y2 ∧ DataW.trod enc P w base spare held n f3.type [v3] = some y3 ∧ DataW.trod enc P w base spare held n f4.type [v4] = some y4 := by
  obtain ⟨cs, rfl, hsz⟩ := okWide_struct hs hv
  obtain ⟨l⟩ := cs
  match l, hsz.trans hC with
  | [c0, c1, c2, c3, c4], _ =>
    obtain ⟨fuel, hf⟩ := h
    obtain ⟨xs, n, _, _, _, hlen, hg⟩ := DataW.trod_struct hs hf
    obtain ⟨o0, k0⟩ := hone_of hone 0 f0 rfl
    obtain ⟨o1, k1⟩ := hone_of hone 1 f1 rfl
    obtain ⟨o2, k2⟩ := hone_of hone 2 f2 rfl
    obtain ⟨o3, k3⟩ := hone_of hone 3 f3 rfl
    obtain ⟨o4, k4⟩ := hone_of hone 4 f4 rfl
    match xs, hlen with
    | [y0, y1, y2, y3, y4], _ =>
      exact ⟨c0, c1, c2, c3, c4, y0, y1, y2, y3, y4, n, rfl, by simpa [Value.cells, o0, k0] using hg 0 f0 rfl, by simpa [Value.cells, o1, k1] using hg 1 f1 rfl, by simpa [Value.cells, o2, k2] using hg 2 f2 rfl, by simpa [Value.cells, o3, k3] using hg 3 f3 rfl, by simpa [Value.cells, o4, k4] using hg 4 f4 rfl⟩
end
set_option maxRecDepth 100000 in
theorem open_Affix {H : Type} {enc : TypeId × Value → H} {W : World} {b0 : Nat} {held : Bool} {v : Value} {d : DataW H} {p : List MemPlace}
    (hv : Value.okWide Tryd.prog W .any b0 104 v) (h : DataW.Trod enc Tryd.prog W 0 (fun _ => true) held 104 v d p) : ∃ x, AffR W v x := by
  obtain ⟨v0, v1, v2, v3, v4, y0, y1, y2, y3, y4, n, rfl, h0, h1, h2, h3, h4⟩ := agg5_open Tryd.underlying104 (by kernel_rfl) (by kernel_rfl) hv h
  obtain ⟨s0, e0, -, w0⟩ := DataW.trod_string Tryd.underlying9 h0
  obtain ⟨s1, e1, -⟩ := DataW.trod_bool Tryd.underlying4 h1
  obtain ⟨s2, e2, -, w2⟩ := DataW.trod_string Tryd.underlying9 h2
  obtain ⟨s3, e3, -, w3⟩ := DataW.trod_string Tryd.underlying9 h3
  obtain ⟨s4, e4, -, w4⟩ := DataW.trod_string Tryd.underlying9 h4
  obtain rfl : v0 = .string s0 := by simpa using e0
  obtain rfl : v1 = .bool s1 := by simpa using e1
  obtain rfl : v2 = .string s2 := by simpa using e2
  obtain rfl : v3 = .string s3 := by simpa using e3
  obtain rfl : v4 = .string s4 := by simpa using e4
  exact ⟨⟨s0, s1, s2, s3, s4⟩, rfl, w0, w2, w3, w4⟩
def szAffR (x : AffD) : Nat := x.name.size + x.cond.size + x.strip.size + x.add.size
theorem szNAffix {x : AffD} {n : Nat} (h : szAffR x ≤ n) (hn : n ≤ 1048576) : AffLim x 1048576 := by unfold szAffR at h; exact ⟨by omega, by omega, by omega, by omega⟩
set_option maxHeartbeats 1000000 in
theorem szAffix_any (v : Value) (x : AffD) (z : Int) (left : Nat) (w : World) (hv : AffR w v x) (hz : z = (left : Int)) (hleft : left ≤ 1048576) :
    Calls Tryd.prog 68 #[v, .int .i64 z] w fun e w' => ((szAffR x ≤ left ∧ e = .returned (.int .i64 ((left - szAffR x : Nat) : Int))) ∨ (left < szAffR x ∧ e = .returned (.int .i64 (-1)))) ∧ Below w.heap.size w w' := by
  subst hz
  obtain ⟨rfl, hl1, hl2, hl3, hl4⟩ := hv
  unfold maxLen at hl1 hl2 hl3 hl4
  have hb0 : Below w.heap.size w (w.alloc (.cells #[.string x.name, .bool x.front, .string x.cond, .string x.strip, .string x.add] 104)) := (Below.refl _ _).alloc (Nat.le_refl _) _
  by_cases h1 : x.name.size ≤ left
  · by_cases h2 : x.cond.size ≤ left - x.name.size
    · by_cases h3 : x.strip.size ≤ left - x.name.size - x.cond.size
      · by_cases h4 : x.add.size ≤ left - x.name.size - x.cond.size - x.strip.size
        · go_enter Tryd.func68, Tryd.ntmps68
          go_wp2
          go_ret
          exact ⟨.inl ⟨by unfold szAffR; omega, ret_int (by unfold szAffR; omega)⟩, hb0⟩
        · go_enter Tryd.func68, Tryd.ntmps68
          go_wp2
          go_ret
          exact ⟨.inr ⟨by unfold szAffR; omega, rfl⟩, hb0⟩
      · go_enter Tryd.func68, Tryd.ntmps68
        go_wp2
        go_ret
        exact ⟨.inr ⟨by unfold szAffR; omega, rfl⟩, hb0⟩
    · go_enter Tryd.func68, Tryd.ntmps68
      go_wp2
      go_ret
      exact ⟨.inr ⟨by unfold szAffR; omega, rfl⟩, hb0⟩
  · go_enter Tryd.func68, Tryd.ntmps68
    go_wp2
    go_ret
    exact ⟨.inr ⟨by unfold szAffR; omega, rfl⟩, hb0⟩
set_option maxHeartbeats 2000000 in
theorem toAffix_any (v : Value) (x : AffD) (w : World) (hv : AffR w v x) (_hn : AffLim x 1048576) :
    Calls Tryd.prog 73 #[v] w fun e w' => ∃ s, e = .returned s ∧ AffW w' w.heap.size w'.heap.size s x ∧ Below w.heap.size w w' := by
  obtain ⟨rfl, hl⟩ := hv
  have Hl := Lib.hid hl
  clear hl
  have hb0 : Below w.heap.size w (((w.alloc (.cells #[.string x.name, .bool x.front, .string x.cond, .string x.strip, .string x.add] 104)).alloc (.cells #[.string x.name, .bool x.front, .string x.cond, .string x.strip, .string x.add] 64)).alloc (.cells #[.string x.name, .bool x.front, .string x.cond, .string x.strip, .string x.add] 64)) :=
    (((Below.refl _ _).alloc (Nat.le_refl _) _).alloc (by simp) _).alloc (by simp; try omega) _
  go_enter Tryd.func73, Tryd.ntmps73
  go_wp2
  refine bodyPost_ret (v := .agg #[.string x.name, .bool x.front, .string x.cond, .string x.strip, .string x.add]) (by simp [results, Tryd.results73, go_sem]) rfl ⟨_, rfl, ⟨rfl, Hl.out⟩, ?_⟩
  exact hb0
end Go.Proofs.YtgefgdkejenhnaaDoor
