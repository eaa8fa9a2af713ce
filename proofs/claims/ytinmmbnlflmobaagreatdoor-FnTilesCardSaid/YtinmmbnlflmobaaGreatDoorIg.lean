/- Tile sets: the value and the number of a letter (l02Find, l02Value, l02Count, valueOf), ValueOf, CountOf. No condition but the readings. -/
import Derived.Test.YtinmmbnlflmobaaGreatDoorIc
import Derived.Test.YtinmmbnlflmobaaGreatDoorSh
import Derived.Test.YtinmmbnlflmobaaGreatDoorU
namespace Go.Proofs.YtinmmbnlflmobaaGreatDoor
open Go.RowKit
/-- A tile set in a box. -/
structure TilBox (w : World) (g : Nat) (x : TileD) (a : Option Addr) (c : Nat) (b : Option Addr) (d : Nat) : Prop where
  c0 : w.cell? ⟨g, 0, none⟩ = some (.string x.letters)
  c1 : w.cell? ⟨g, 1, none⟩ = some (.slice a x.values.length c)
  c2 : w.cell? ⟨g, 2, none⟩ = some (.slice b x.counts.length d)
  c3 : w.cell? ⟨g, 3, none⟩ = some (.int .i64 x.blanks)
  l : x.letters.size ≤ maxLen
  v : Ints w (.slice a x.values.length c) x.values
  n : Ints w (.slice b x.counts.length d) x.counts
  k : I64 x.blanks
theorem TilBox.below {w w' : World} {g x a c b d} (h : TilBox w g x a c b d) (hb : Below w.heap.size w w') : TilBox w' g x a c b d :=
  ⟨cell_below hb h.c0, cell_below hb h.c1, cell_below hb h.c2, cell_below hb h.c3, h.l, h.v.below hb, h.n.below hb, h.k⟩
theorem TilBox.alloc {w : World} {g x a c b d} (h : TilBox w g x a c b d) (o : Obj) : TilBox (w.alloc o) g x a c b d := h.below ((Below.refl _ _).alloc (Nat.le_refl _) o)
theorem TilBox.drewN {w : World} {g x a c b d} (h : TilBox w g x a c b d) (q : Nat) : TilBox (w.drewN q) g x a c b d := h.below (below_drewN (Below.refl _ _) q)
theorem TilR.parts {w : World} {x : TileD} {a : Option Addr} {c : Nat} {b : Option Addr} {d : Nat}
    (h : TilR w (.agg #[.string x.letters, .slice a x.values.length c, .slice b x.counts.length d, .int .i64 x.blanks]) x) :
    x.letters.size ≤ maxLen ∧ Ints w (.slice a x.values.length c) x.values ∧ Ints w (.slice b x.counts.length d) x.counts ∧ I64 x.blanks := by
  obtain ⟨s1, s2, e, hl, h1, h2, hbl⟩ := h
  simp only [Value.agg.injEq, Array.mk.injEq, List.cons.injEq, and_true, true_and] at e
  obtain ⟨rfl, rfl⟩ := e
  exact ⟨hl, h1, h2, hbl⟩
theorem TilR.box {w : World} {x : TileD} {a : Option Addr} {c : Nat} {b : Option Addr} {d : Nat}
    (h : TilR w (.agg #[.string x.letters, .slice a x.values.length c, .slice b x.counts.length d, .int .i64 x.blanks]) x) (t : TypeId) :
    TilBox (w.alloc (.cells #[.string x.letters, .slice a x.values.length c, .slice b x.counts.length d, .int .i64 x.blanks] t)) w.heap.size x a c b d := by
  have h' := h.below ((Below.refl w.heap.size w).alloc (Nat.le_refl _) (.cells #[.string x.letters, .slice a x.values.length c, .slice b x.counts.length d, .int .i64 x.blanks] t))
  obtain ⟨hl, h1, h2, hbl⟩ := h'.parts
  exact ⟨cell_newi w _ t 0 _ rfl, cell_newi w _ t 1 _ rfl, cell_newi w _ t 2 _ rfl, cell_newi w _ t 3 _ rfl, hl, h1, h2, hbl⟩
theorem TilBox.read {w : World} {g x a c b d} (h : TilBox w g x a c b d) : TilR w (.agg #[.string x.letters, .slice a x.values.length c, .slice b x.counts.length d, .int .i64 x.blanks]) x :=
  ⟨_, _, rfl, h.l, h.v, h.n, h.k⟩

/-- The index of a byte in a string; -1 if it is not there. -/
def idxB (s : ByteArray) (ch : Int) : Int := Lib.indexByte s.data.toList ch.toNat.toUInt8
theorem u8_of {ch : Int} (h0 : 0 ≤ ch) (h1 : ch < 256) (b : UInt8) : b = ch.toNat.toUInt8 ↔ (b.toNat : Int) = ch := by
  rw [← UInt8.toNat_inj, UInt8.toNat_ofNat']
  omega
theorem idxB_at {s : ByteArray} {ch : Int} {k : Nat} (h0 : 0 ≤ ch) (h1 : ch < 256) (hk : k < s.size) (he : (s[k].toNat : Int) = ch) (hb : ∀ i, i < k → (h : i < s.size) → (s[i].toNat : Int) ≠ ch) : idxB s ch = (k : Int) := by
  rcases indexByte_spec s.data.toList ch.toNat.toUInt8 with ⟨h2, h3⟩ | ⟨j, hj, h2, h3, h4⟩
  · exact absurd ((u8_of h0 h1 _).2 he) (h3 k (by simpa using hk))
  · have hj' : j < s.size := by simpa using hj
    have e1 : (s[j].toNat : Int) = ch := (u8_of h0 h1 _).1 h3
    have : j = k := by
      rcases Nat.lt_trichotomy j k with h | h | h
      · exact absurd e1 (hb j h hj')
      · exact h
      · exact absurd ((u8_of h0 h1 _).2 he) (h4 k h)
    subst this
    exact h2
theorem idxB_none {s : ByteArray} {ch : Int} (h0 : 0 ≤ ch) (h1 : ch < 256) (hb : ∀ i, (h : i < s.size) → (s[i].toNat : Int) ≠ ch) : idxB s ch = -1 := by
  rcases indexByte_spec s.data.toList ch.toNat.toUInt8 with ⟨h2, h3⟩ | ⟨j, hj, h2, h3, h4⟩
  · exact h2
  · exact absurd ((u8_of h0 h1 _).1 h3) (hb j (by simpa using hj))
theorem idxB_cases (s : ByteArray) (ch : Int) : idxB s ch = -1 ∨ ∃ k : Nat, k < s.size ∧ idxB s ch = (k : Int) := by
  rcases indexByte_spec s.data.toList ch.toNat.toUInt8 with ⟨h2, h3⟩ | ⟨j, hj, h2, h3, h4⟩
  · exact .inl h2
  · exact .inr ⟨j, by simpa using hj, h2⟩
theorem idxB_self {s : ByteArray} (h : riseB s = true) (k : Nat) (hk : k < s.size) : idxB s (s[k].toNat : Int) = (k : Int) := by
  refine idxB_at (by omega) (by have := UInt8.toNat_lt s[k]; omega) hk rfl fun i hi hl e => ?_
  have hu := rise_up h
  have : ∀ d i, i + d + 1 = k → (h1 : i < s.size) → s[i].toNat < s[k].toNat := by
    intro d
    induction d with
    | zero => intro i e h1; have := hu i (by omega) (by omega); simp only [show i + 1 = k by omega] at this; exact this
    | succ d ih => intro i e h1; have h2 := ih (i + 1) (by omega) (by omega); have h3 := hu i (by omega) (by omega); omega
  have := this (k - i - 1) i (by omega) hl
  omega
/-- The value of a letter, the number of a tile. -/
def valF (x : TileD) (ch : Int) : Int := if idxB x.letters ch < 0 then 0 else x.values.getD (idxB x.letters ch).toNat 0
def cntF (x : TileD) (ch : Int) : Int := if ch = 63 then x.blanks else if idxB x.letters ch < 0 then 0 else x.counts.getD (idxB x.letters ch).toNat 0
theorem valF_none {x : TileD} {ch : Int} (h : idxB x.letters ch = -1) : valF x ch = 0 := by simp [valF, h]
theorem valF_at {x : TileD} {ch : Int} {k : Nat} (h : idxB x.letters ch = (k : Int)) (hk : k < x.values.length) : valF x ch = x.values[k] := by
  have : ¬ ((k : Int) < 0) := by omega
  rw [valF, h, if_neg this]; simp [hk]
theorem cntF_b {x : TileD} : cntF x 63 = x.blanks := by simp [cntF]
theorem cntF_none {x : TileD} {ch : Int} (h6 : ch ≠ 63) (h : idxB x.letters ch = -1) : cntF x ch = 0 := by simp [cntF, h, h6]
theorem cntF_at {x : TileD} {ch : Int} {k : Nat} (h6 : ch ≠ 63) (h : idxB x.letters ch = (k : Int)) (hk : k < x.counts.length) : cntF x ch = x.counts[k] := by
  have : ¬ ((k : Int) < 0) := by omega
  rw [cntF, if_neg h6, h, if_neg this]; simp [hk]
theorem valF_bd {x : TileD} (H : TilP x) (ch : Int) : 0 ≤ valF x ch ∧ valF x ch ≤ 20 := by
  rcases idxB_cases x.letters ch with h | ⟨k, hk, h⟩
  · rw [valF_none h]; omega
  · have hk' : k < x.values.length := by have := H.lv; omega
    rw [valF_at h hk']; exact H.va k hk'
theorem cntF_bd {x : TileD} (H : TilP x) (ch : Int) : 0 ≤ cntF x ch ∧ cntF x ch ≤ 20 := by
  by_cases h6 : ch = 63
  · subst h6; rw [cntF_b]; have := H.b0; have := H.b4; omega
  · rcases idxB_cases x.letters ch with h | ⟨k, hk, h⟩
    · rw [cntF_none h6 h]; omega
    · have hk' : k < x.counts.length := by have := H.lc; omega
      rw [cntF_at h6 h hk']; have := H.co k hk'; omega
theorem u8_wf {ch : Int} (h : (Lit.int .u8 ch).wf = true) : 0 ≤ ch ∧ ch < 256 := by
  simp only [Lit.wf, Bool.and_eq_true, decide_eq_true_eq] at h
  have h2 : 0 ≤ ch ∧ ch ≤ 255 := h
  omega
noncomputable def valV (x : TileD) (ch : Int) : Int := if tilB x = true then valF x ch else 0
noncomputable def cntV (x : TileD) (ch : Int) : Int := if tilB x = true then cntF x ch else 0
theorem valV_no {x : TileD} (h : tilB x = false) (ch : Int) : 0 = valV x ch := by simp [valV, h]
theorem valV_yes {x : TileD} (h : tilB x = true) (ch : Int) : valF x ch = valV x ch := by simp [valV, h]
theorem cntV_no {x : TileD} (h : tilB x = false) (ch : Int) : 0 = cntV x ch := by simp [cntV, h]
theorem cntV_yes {x : TileD} (h : tilB x = true) (ch : Int) : cntF x ch = cntV x ch := by simp [cntV, h]
set_option maxHeartbeats 1000000 in
theorem valueOf_any (v : Value) (x : TileD) (ch : Int) (w : World) (hv : TilR w v x) (H : TilP x) (_h0 : 0 ≤ ch) (_h1 : ch < 256) :
    Calls Tryz.prog 28 #[v, .int .u8 ch] w fun e w' => e = .returned (.int .i64 (valF x ch)) ∧ Below w.heap.size w w' := by
  obtain ⟨a, c, b, d, rfl⟩ := hv.shape
  have hb0 : Below w.heap.size w (w.alloc (.cells #[.string x.letters, .slice a x.values.length c, .slice b x.counts.length d, .int .i64 x.blanks] 26)) := (Below.refl _ _).alloc (Nat.le_refl _) _
  obtain ⟨c0, c1, c2, c3, hl, hvv, hnn, hk⟩ := hv.box 26
  obtain ⟨a', c', e1, -, hcm, hcs⟩ := hvv.shape
  injection e1 with e1 e2 e3
  subst e1
  subst e3
  have hlv := Lib.hid H.lv
  clear hv hvv hnn hk c2 c3 e2 H
  unfold maxLen at hcm hl
  rcases idxB_cases x.letters ch with hi | ⟨k, hkl, hi⟩
  · have Hi := Lib.hid hi
    clear hi
    go_enter Tryz.func28, Tryz.ntmps28
    go_wp2_with fail
    refine (Tryz.strings_IndexByte _ _ _).mono ?_
    rw [show Lib.indexByte x.letters.data.toList ch.toNat.toUInt8 = -1 from Hi.out]
    rintro e w1 ⟨rfl, rfl⟩
    go_wp2
    go_ret
    exact ⟨ret_int (valF_none Hi.out).symm, hb0⟩
  · have Hi := Lib.hid hi
    clear hi
    have hkv : k < x.values.length := by have := hlv.out; omega
    obtain ⟨b1, o1, rfl, hc1, hs1⟩ := hcs k hkv
    clear hcs
    go_enter Tryz.func28, Tryz.ntmps28
    go_wp2_with fail
    refine (Tryz.strings_IndexByte _ _ _).mono ?_
    rw [show Lib.indexByte x.letters.data.toList ch.toNat.toUInt8 = (k : Int) from Hi.out]
    rintro e w1 ⟨rfl, rfl⟩
    go_wp2
    go_ret
    exact ⟨ret_int (valF_at Hi.out hkv).symm, hb0⟩
theorem implValueOf_any (v : Value) (x : TileD) (ch : Int) (w : World) (hv : TilR w v x) (hc : (Lit.int .u8 ch).wf = true) :
    Calls Tryz.prog 14 #[v, .int .u8 ch] w fun e w' => e = .returned (.int .i64 (valV x ch)) ∧ Below w.heap.size w w' := by
  obtain ⟨h0, h1⟩ := u8_wf hc
  obtain ⟨a, c, b, d, rfl⟩ := hv.shape
  have hb0 : Below w.heap.size w (w.alloc (.cells #[.string x.letters, .slice a x.values.length c, .slice b x.counts.length d, .int .i64 x.blanks] 26)) := (Below.refl _ _).alloc (Nat.le_refl _) _
  have HX := Lib.hid (hv.box 26)
  obtain ⟨c0, c1, c2, c3, hl, hvv, hnn, hk⟩ := hv.box 26
  clear hv hc hl hvv hnn hk
  go_enter Tryz.func14, Tryz.ntmps14
  go_wp2_with fail
  refine (implValidTiles_any _ x _ HX.out.read).mono ?_
  rintro e w1 ⟨rfl, hb1⟩
  have hbb := hb0.trans (hb1.mono hb0.size)
  have d0 := cell_below hb1 c0
  have d1 := cell_below hb1 c1
  have d2 := cell_below hb1 c2
  have d3 := cell_below hb1 c3
  have HX2 := Lib.hid (HX.out.below hb1)
  clear c0 c1 c2 c3 HX hb0 hb1
  cases hT : tilB x
  · have HT := Lib.hid hT
    clear hT
    go_wp2
    go_ret
    exact ⟨ret_int (valV_no HT.out _), hbb⟩
  · have HT := Lib.hid hT
    clear hT
    go_wp2_with fail
    refine (valueOf_any _ x ch _ HX2.out.read (tilB_P HT.out) h0 h1).mono ?_
    rintro e w2 ⟨rfl, hb2⟩
    go_wp2
    go_ret
    exact ⟨ret_int (valV_yes HT.out _), hbb.trans (hb2.mono hbb.size)⟩
set_option maxHeartbeats 1000000 in
theorem implCountOf_any (v : Value) (x : TileD) (ch : Int) (w : World) (hv : TilR w v x) (hc : (Lit.int .u8 ch).wf = true) :
    Calls Tryz.prog 13 #[v, .int .u8 ch] w fun e w' => e = .returned (.int .i64 (cntV x ch)) ∧ Below w.heap.size w w' := by
  obtain ⟨h0, h1⟩ := u8_wf hc
  obtain ⟨a, c, b, d, rfl⟩ := hv.shape
  have hb0 : Below w.heap.size w (w.alloc (.cells #[.string x.letters, .slice a x.values.length c, .slice b x.counts.length d, .int .i64 x.blanks] 26)) := (Below.refl _ _).alloc (Nat.le_refl _) _
  have HX := Lib.hid (hv.box 26)
  obtain ⟨c0, c1, c2, c3, hl, hvv, hnn, hk⟩ := hv.box 26
  clear hv hc hvv hnn hk
  cases hT : tilB x
  · have HT := Lib.hid hT
    clear hT
    go_enter Tryz.func13, Tryz.ntmps13
    go_wp2_with fail
    refine (implValidTiles_any _ x _ HX.out.read).mono ?_
    rw [HT.out]
    rintro e w1 ⟨rfl, hb1⟩
    have hbb := hb0.trans (hb1.mono hb0.size)
    go_wp2
    go_ret
    exact ⟨ret_int (cntV_no HT.out _), hbb⟩
  · have HT := Lib.hid hT
    have HP := Lib.hid (tilB_P hT)
    clear hT
    cases h6 : (ch == 63)
    · have H6 := Lib.hid (beq_eq_false_iff_ne.1 h6)
      rcases idxB_cases x.letters ch with hi | ⟨k, hkl, hi⟩
      · have Hi := Lib.hid hi
        clear hi
        go_enter Tryz.func13, Tryz.ntmps13
        go_wp2_with fail
        refine (implValidTiles_any _ x _ HX.out.read).mono ?_
        rw [HT.out]
        rintro e w1 ⟨rfl, hb1⟩
        have hbb := hb0.trans (hb1.mono hb0.size)
        have d0 := cell_below hb1 c0
        have d1 := cell_below hb1 c1
        have d2 := cell_below hb1 c2
        have d3 := cell_below hb1 c3
        clear c0 c1 c2 c3 hb0 hb1
        go_wp2_with fail
        refine (Tryz.strings_IndexByte _ _ _).mono ?_
        rw [show Lib.indexByte x.letters.data.toList ch.toNat.toUInt8 = -1 from Hi.out]
        rintro e w1 ⟨rfl, rfl⟩
        go_wp2
        go_ret
        exact ⟨ret_int ((cntF_none H6.out Hi.out).symm.trans (cntV_yes HT.out _)), hbb⟩
      · have Hi := Lib.hid hi
        clear hi
        have hkv : k < x.counts.length := by have := HP.out.lc; omega
        have hcap : d ≤ maxLen := by obtain ⟨b', d', e1, -, hdm, -⟩ := HX.out.n.shape; injection e1 with e1 e2 e3; subst e3; exact hdm
        unfold maxLen at hcap hl
        go_enter Tryz.func13, Tryz.ntmps13
        go_wp2_with fail
        refine (implValidTiles_any _ x _ HX.out.read).mono ?_
        rw [HT.out]
        rintro e w1 ⟨rfl, hb1⟩
        have hbb := hb0.trans (hb1.mono hb0.size)
        have d0 := cell_below hb1 c0
        have d1 := cell_below hb1 c1
        have d2 := cell_below hb1 c2
        have d3 := cell_below hb1 c3
        obtain ⟨b', d', e1, -, -, hcs⟩ := (HX.out.n.below hb1).shape
        injection e1 with e1 e2 e3
        subst e1
        subst e3
        obtain ⟨b1, o1, rfl, hc1, hs1⟩ := hcs k hkv
        clear c0 c1 c2 c3 hb0 hb1 hcs e2 HX
        go_wp2_with fail
        refine (Tryz.strings_IndexByte _ _ _).mono ?_
        rw [show Lib.indexByte x.letters.data.toList ch.toNat.toUInt8 = (k : Int) from Hi.out]
        rintro e w1 ⟨rfl, rfl⟩
        go_wp2
        go_ret
        exact ⟨ret_int ((cntF_at H6.out Hi.out hkv).symm.trans (cntV_yes HT.out _)), hbb⟩
    · have H6 := Lib.hid (eq_of_beq h6)
      go_enter Tryz.func13, Tryz.ntmps13
      go_wp2_with fail
      refine (implValidTiles_any _ x _ HX.out.read).mono ?_
      rw [HT.out]
      rintro e w1 ⟨rfl, hb1⟩
      have hbb := hb0.trans (hb1.mono hb0.size)
      have d3 := cell_below hb1 c3
      clear c0 c1 c2 c3 hb0 hb1
      go_wp2
      go_ret
      exact ⟨ret_int (by rw [← cntV_yes HT.out, H6.out, cntF_b]), hbb⟩
end Go.Proofs.YtinmmbnlflmobaaGreatDoor
