/- Tile sets: the value and the number of a letter (l02Find, l02Value, l02Count, valueOf), ValueOf, CountOf. No condition but the readings. -/
import Derived.Test.YtdgmndeindaobaaIc
import Derived.Test.YtdgmndeindaobaaSh
namespace Go.Proofs.Ytdgmndeindaobaa
open Go.RowKit
/-- A tile set in a box. -/
structure TilBox (w : World) (g : Nat) (x : TileD) (a : Option Addr) (c : Nat) (b : Option Addr) (d : Nat) : Prop where
  c0 : w.cell? ⟨g, 0, none⟩ = some (.string x.letters)
  c1 : w.cell? ⟨g, 1, none⟩ = some (.slice a x.values.length c)
  c2 : w.cell? ⟨g, 2, none⟩ = some (.slice b x.counts.length d)
  c3 : w.cell? ⟨g, 3, none⟩ = some (.int .i64 x.blanks)
  l : x.letters.size ≤ maxLen
  v : Ints w (.slice a x.values.length c) x.values
  n : Ints w (.slice b x.counts.length d) x.counts
  k : I64 x.blanks
theorem TilBox.below {w w' : World} {g x a c b d} (h : TilBox w g x a c b d) (hb : Below w.heap.size w w') : TilBox w' g x a c b d :=
  ⟨cell_below hb h.c0, cell_below hb h.c1, cell_below hb h.c2, cell_below hb h.c3, h.l, h.v.below hb, h.n.below hb, h.k⟩
theorem TilBox.alloc {w : World} {g x a c b d} (h : TilBox w g x a c b d) (o : Obj) : TilBox (w.alloc o) g x a c b d := h.below ((Below.refl _ _).alloc (Nat.le_refl _) o)
theorem TilBox.drewN {w : World} {g x a c b d} (h : TilBox w g x a c b d) (q : Nat) : TilBox (w.drewN q) g x a c b d := h.below (below_drewN (Below.refl _ _) q)
theorem TilR.parts {w : World} {x : TileD} {a : Option Addr} {c : Nat} {b : Option Addr} {d : Nat}
    (h : TilR w (.agg #[.string x.letters, .slice a x.values.length c, .slice b x.counts.length d, .int .i64 x.blanks]) x) :
    x.letters.size ≤ maxLen ∧ Ints w (.slice a x.values.length c) x.values ∧ Ints w (.slice b x.counts.length d) x.counts ∧ I64 x.blanks := by
  obtain ⟨s1, s2, e, hl, h1, h2, hbl⟩ := h
  simp only [Value.agg.injEq, Array.mk.injEq, List.cons.injEq, and_true, true_and] at e
  obtain ⟨rfl, rfl⟩ := e
  exact ⟨hl, h1, h2, hbl⟩
theorem TilR.box {w : World} {x : TileD} {a : Option Addr} {c : Nat} {b : Option Addr} {d : Nat}
    (h : TilR w (.agg #[.string x.letters, .slice a x.values.length c, .slice b x.counts.length d, .int .i64 x.blanks]) x) (t : TypeId) :
    TilBox (w.alloc (.cells #[.string x.letters, .slice a x.values.length c, .slice b x.counts.length d, .int .i64 x.blanks] t)) w.heap.size x a c b d := by
  have h' := h.below ((Below.refl w.heap.size w).alloc (Nat.le_refl _) (.cells #[.string x.letters, .slice a x.values.length c, .slice b x.counts.length d, .int .i64 x.blanks] t))
  obtain ⟨hl, h1, h2, hbl⟩ := h'.parts
  exact ⟨cell_newi w _ t 0 _ rfl, cell_newi w _ t 1 _ rfl, cell_newi w _ t 2 _ rfl, cell_newi w _ t 3 _ rfl, hl, h1, h2, hbl⟩
theorem TilBox.read {w : World} {g x a c b d} (h : TilBox w g x a c b d) : TilR w (.agg #[.string x.letters, .slice a x.values.length c, .slice b x.counts.length d, .int .i64 x.blanks]) x :=
  ⟨_, _, rfl, h.l, h.v, h.n, h.k⟩

/-- The index of a byte in a string; -1 if it is not there. -/
def idxB (s : ByteArray) (ch : Int) : Int := Lib.indexByte s.data.toList ch.toNat.toUInt8
theorem indexByte_spec (l : List UInt8) (c : UInt8) : (Lib.indexByte l c = -1 ∧ ∀ i, (h : i < l.length) → l[i] ≠ c) ∨ (∃ k, ∃ h : k < l.length, Lib.indexByte l c = (k : Int) ∧ l[k] = c ∧ ∀ i, (hi : i < k) → l[i]'(by omega) ≠ c) := by
  induction l with
  | nil => left; exact ⟨rfl, fun i h => by simp at h⟩
  | cons b l ih =>
    by_cases hb : b = c
    · right; refine ⟨0, by simp, ?_, by simpa using hb, fun i hi => by omega⟩
      simp [Lib.indexByte, hb]
    · rcases ih with ⟨h1, h2⟩ | ⟨k, hk, h1, h2, h3⟩
      · left
        refine ⟨by simp [Lib.indexByte, hb, h1], fun i h => ?_⟩
        cases i with
        | zero => simpa using hb
        | succ i => simpa using h2 i (by simpa using h)
      · right
        refine ⟨k + 1, by simpa using hk, ?_, by simpa using h2, fun i hi => ?_⟩
        · have : ((k : Int) == -1) = false := by rw [beq_eq_false_iff_ne]; omega
          simp [Lib.indexByte, hb, h1]
        · cases i with
          | zero => simpa using hb
          | succ i => simpa using h3 i (by omega)
theorem u8_of {ch : Int} (h0 : 0 ≤ ch) (h1 : ch < 256) (b : UInt8) : b = ch.toNat.toUInt8 ↔ (b.toNat : Int) = ch := by
  rw [← UInt8.toNat_inj, UInt8.toNat_ofNat']
  omega
theorem idxB_at {s : ByteArray} {ch : Int} {k : Nat} (h0 : 0 ≤ ch) (h1 : ch < 256) (hk : k < s.size) (he : (s[k].toNat : Int) = ch) (hb : ∀ i, i < k → (h : i < s.size) → (s[i].toNat : Int) ≠ ch) : idxB s ch = (k : Int) := by
  rcases indexByte_spec s.data.toList ch.toNat.toUInt8 with ⟨h2, h3⟩ | ⟨j, hj, h2, h3, h4⟩
  · exact absurd ((u8_of h0 h1 _).2 he) (h3 k (by simpa using hk))
  · have hj' : j < s.size := by simpa using hj
    have e1 : (s[j].toNat : Int) = ch := (u8_of h0 h1 _).1 h3
    have : j = k := by
      rcases Nat.lt_trichotomy j k with h | h | h
      · exact absurd e1 (hb j h hj')
      · exact h
      · exact absurd ((u8_of h0 h1 _).2 he) (h4 k h)
    subst this
    exact h2
theorem idxB_none {s : ByteArray} {ch : Int} (h0 : 0 ≤ ch) (h1 : ch < 256) (hb : ∀ i, (h : i < s.size) → (s[i].toNat : Int) ≠ ch) : idxB s ch = -1 := by
  rcases indexByte_spec s.data.toList ch.toNat.toUInt8 with ⟨h2, h3⟩ | ⟨j, hj, h2, h3, h4⟩
  · exact h2
  · exact absurd ((u8_of h0 h1 _).1 h3) (hb j (by simpa using hj))
theorem idxB_cases (s : ByteArray) (ch : Int) : idxB s ch = -1 ∨ ∃ k : Nat, k < s.size ∧ idxB s ch = (k : Int) := by
  rcases indexByte_spec s.data.toList ch.toNat.toUInt8 with ⟨h2, h3⟩ | ⟨j, hj, h2, h3, h4⟩
  · exact .inl h2
  · exact .inr ⟨j, by simpa using hj, h2⟩
theorem idxB_self {s : ByteArray} (h : riseB s = true) (k : Nat) (hk : k < s.size) : idxB s (s[k].toNat : Int) = (k : Int) := by
  refine idxB_at (by omega) (by have := UInt8.toNat_lt s[k]; omega) hk rfl fun i hi hl e => ?_
  have hu := rise_up h
  have : ∀ d i, i + d + 1 = k → (h1 : i < s.size) → s[i].toNat < s[k].toNat := by
    intro d
    induction d with
    | zero => intro i e h1; have := hu i (by omega) (by omega); simp only [show i + 1 = k by omega] at this; exact this
    | succ d ih => intro i e h1; have h2 := ih (i + 1) (by omega) (by omega); have h3 := hu i (by omega) (by omega); omega
  have := this (k - i - 1) i (by omega) hl
  omega
/-- The value of a letter, the number of a tile. -/
def valF (x : TileD) (ch : Int) : Int := if idxB x.letters ch < 0 then 0 else x.values.getD (idxB x.letters ch).toNat 0
def cntF (x : TileD) (ch : Int) : Int := if ch = 63 then x.blanks else if idxB x.letters ch < 0 then 0 else x.counts.getD (idxB x.letters ch).toNat 0
theorem valF_none {x : TileD} {ch : Int} (h : idxB x.letters ch = -1) : valF x ch = 0 := by simp [valF, h]
theorem valF_at {x : TileD} {ch : Int} {k : Nat} (h : idxB x.letters ch = (k : Int)) (hk : k < x.values.length) : valF x ch = x.values[k] := by
  have : ¬ ((k : Int) < 0) := by omega
  rw [valF, h, if_neg this]; simp [hk]
theorem cntF_b {x : TileD} : cntF x 63 = x.blanks := by simp [cntF]
theorem cntF_none {x : TileD} {ch : Int} (h6 : ch ≠ 63) (h : idxB x.letters ch = -1) : cntF x ch = 0 := by simp [cntF, h, h6]
theorem cntF_at {x : TileD} {ch : Int} {k : Nat} (h6 : ch ≠ 63) (h : idxB x.letters ch = (k : Int)) (hk : k < x.counts.length) : cntF x ch = x.counts[k] := by
  have : ¬ ((k : Int) < 0) := by omega
  rw [cntF, if_neg h6, h, if_neg this]; simp [hk]
theorem valF_bd {x : TileD} (H : TilP x) (ch : Int) : 0 ≤ valF x ch ∧ valF x ch ≤ 20 := by
  rcases idxB_cases x.letters ch with h | ⟨k, hk, h⟩
  · rw [valF_none h]; omega
  · have hk' : k < x.values.length := by have := H.lv; omega
    rw [valF_at h hk']; exact H.va k hk'
theorem cntF_bd {x : TileD} (H : TilP x) (ch : Int) : 0 ≤ cntF x ch ∧ cntF x ch ≤ 20 := by
  by_cases h6 : ch = 63
  · subst h6; rw [cntF_b]; have := H.b0; have := H.b4; omega
  · rcases idxB_cases x.letters ch with h | ⟨k, hk, h⟩
    · rw [cntF_none h6 h]; omega
    · have hk' : k < x.counts.length := by have := H.lc; omega
      rw [cntF_at h6 h hk']; have := H.co k hk'; omega
theorem u8_wf {ch : Int} (h : (Lit.int .u8 ch).wf = true) : 0 ≤ ch ∧ ch < 256 := by
  simp only [Lit.wf, Bool.and_eq_true, decide_eq_true_eq] at h
  have h2 : 0 ≤ ch ∧ ch ≤ 255 := h
  omega
noncomputable def valV (x : TileD) (ch : Int) : Int := if tilB x = true then valF x ch else 0
noncomputable def cntV (x : TileD) (ch : Int) : Int := if tilB x = true then cntF x ch else 0
theorem valV_no {x : TileD} (h : tilB x = false) (ch : Int) : 0 = valV x ch := by simp [valV, h]
theorem valV_yes {x : TileD} (h : tilB x = true) (ch : Int) : valF x ch = valV x ch := by simp [valV, h]
theorem cntV_no {x : TileD} (h : tilB x = false) (ch : Int) : 0 = cntV x ch := by simp [cntV, h]
theorem cntV_yes {x : TileD} (h : tilB x = true) (ch : Int) : cntF x ch = cntV x ch := by simp [cntV, h]
set_option maxHeartbeats 1000000 in
theorem l02Find_any (g : Nat) (x : TileD) (ch : Int) (w : World) (hg : w.cell? ⟨g, 0, none⟩ = some (.string x.letters)) (hl : x.letters.size ≤ maxLen) (h0 : 0 ≤ ch) (h1 : ch < 256) :
    Calls Try.prog 62 #[.pointer (some ⟨g, 0, none⟩), .int .u8 ch] w fun e w' => e = .returned (.int .i64 (idxB x.letters ch)) ∧ ∃ q, w' = w.drewN q := by
  unfold maxLen at hl
  go_enter Try.func62, Try.ntmps62
  go_wp2
  go_loopw [5] (fun i wr => ∃ k q : Nat, k ≤ x.letters.size ∧ i = .int .i64 (k : Int) ∧ wr = w.drewN q ∧ (∀ i, i < k → (h : i < x.letters.size) → (x.letters[i].toNat : Int) ≠ ch)) (fun i _ => x.letters.size - (intOf i).toNat)
  case atStart => exact ⟨0, 0, by omega, rfl, rfl, fun i h => by omega⟩
  case round =>
    obtain ⟨k, q, hk, rfl, hw, hb⟩ := hrel
    have k0 : wr.cell? ⟨g, 0, none⟩ = some (.string x.letters) := by rw [hw]; exact hg
    have Hw := Lib.hid hw
    have Hb := Lib.hid hb
    clear hw hb hg
    by_cases hlt : k < x.letters.size
    · cases hd : ((x.letters[k].toNat : Int) == ch)
      · have Hd := Lib.hid (beq_eq_false_iff_ne.1 hd)
        go_wp2
        go_roundw
        case rel =>
          refine ⟨k + 1, q, by omega, by go_num, by rw [Hw.out], fun i hi h => ?_⟩
          by_cases e : i = k
          · subst e; exact Hd.out
          · exact Hb.out i (by omega) h
        case measure => simp [intOf]; omega
      · have Hd := Lib.hid (eq_of_beq hd)
        go_wp2
        go_ret
        exact ⟨ret_int (idxB_at h0 h1 hlt Hd.out Hb.out).symm, q, Hw.out⟩
    · go_wp2
      go_ret
      exact ⟨ret_int (idxB_none h0 h1 fun i h => Hb.out i (by omega) h).symm, q, Hw.out⟩
theorem l02Value_any (g : Nat) (x : TileD) (a : Option Addr) (c : Nat) (b : Option Addr) (d : Nat) (ch : Int) (w : World) (hx : TilBox w g x a c b d) (H : TilP x) (h0 : 0 ≤ ch) (h1 : ch < 256) :
    Calls Try.prog 41 #[.pointer (some ⟨g, 0, none⟩), .int .u8 ch] w fun e w' => e = .returned (.int .i64 (valF x ch)) ∧ ∃ q, w' = w.drewN q := by
  have HX := Lib.hid hx
  obtain ⟨c0, c1, c2, c3, hl, hv, hn, hk⟩ := hx
  obtain ⟨a', c', e1, -, hcm, hcs⟩ := hv.shape
  injection e1 with e1 e2 e3
  subst e1
  subst e3
  have hlv := Lib.hid H.lv
  have Hl := Lib.hid hl
  clear hv hn hk c0 c2 c3 e2 H
  unfold maxLen at hcm hl
  rcases idxB_cases x.letters ch with hi | ⟨k, hkl, hi⟩
  · have Hi := Lib.hid hi
    clear hi
    go_enter Try.func41, Try.ntmps41
    go_wp2_with fail
    refine (l02Find_any g x ch _ HX.out.c0 Hl.out h0 h1).mono ?_
    rw [Hi.out]
    rintro e w1 ⟨rfl, q, rfl⟩
    go_wp2
    go_ret
    exact ⟨ret_int (valF_none Hi.out).symm, q, rfl⟩
  · have Hi := Lib.hid hi
    clear hi
    have hkv : k < x.values.length := by have := hlv.out; omega
    obtain ⟨b1, o1, rfl, hc1, hs1⟩ := hcs k hkv
    clear hcs
    go_enter Try.func41, Try.ntmps41
    go_wp2_with fail
    refine (l02Find_any g x ch _ HX.out.c0 Hl.out h0 h1).mono ?_
    rw [Hi.out]
    rintro e w1 ⟨rfl, q, rfl⟩
    go_wp2
    go_ret
    exact ⟨ret_int (valF_at Hi.out hkv).symm, q, rfl⟩
theorem l02Count_any (g : Nat) (x : TileD) (a : Option Addr) (c : Nat) (b : Option Addr) (d : Nat) (ch : Int) (w : World) (hx : TilBox w g x a c b d) (H : TilP x) (h0 : 0 ≤ ch) (h1 : ch < 256) :
    Calls Try.prog 43 #[.pointer (some ⟨g, 0, none⟩), .int .u8 ch] w fun e w' => e = .returned (.int .i64 (cntF x ch)) ∧ ∃ q, w' = w.drewN q := by
  have HX := Lib.hid hx
  obtain ⟨c0, c1, c2, c3, hl, hv, hn, hk⟩ := hx
  obtain ⟨a', c', e1, -, hcm, hcs⟩ := hn.shape
  injection e1 with e1 e2 e3
  subst e1
  subst e3
  have hlv := Lib.hid H.lc
  have Hl := Lib.hid hl
  clear hv hn hk c0 e2 H
  unfold maxLen at hcm hl
  cases h6 : (ch == 63)
  · have H6 := Lib.hid (beq_eq_false_iff_ne.1 h6)
    rcases idxB_cases x.letters ch with hi | ⟨k, hkl, hi⟩
    · have Hi := Lib.hid hi
      clear hi
      go_enter Try.func43, Try.ntmps43
      go_wp2_with fail
      refine (l02Find_any g x ch _ HX.out.c0 Hl.out h0 h1).mono ?_
      rw [Hi.out]
      rintro e w1 ⟨rfl, q, rfl⟩
      go_wp2
      go_ret
      exact ⟨ret_int (cntF_none H6.out Hi.out).symm, q, rfl⟩
    · have Hi := Lib.hid hi
      clear hi
      have hkv : k < x.counts.length := by have := hlv.out; omega
      obtain ⟨b1, o1, rfl, hc1, hs1⟩ := hcs k hkv
      clear hcs
      go_enter Try.func43, Try.ntmps43
      go_wp2_with fail
      refine (l02Find_any g x ch _ HX.out.c0 Hl.out h0 h1).mono ?_
      rw [Hi.out]
      rintro e w1 ⟨rfl, q, rfl⟩
      go_wp2
      go_ret
      exact ⟨ret_int (cntF_at H6.out Hi.out hkv).symm, q, rfl⟩
  · have H6 := Lib.hid (eq_of_beq h6)
    go_enter Try.func43, Try.ntmps43
    go_wp2
    go_ret
    exact ⟨ret_int (by rw [H6.out, cntF_b]), 0, rfl⟩
theorem specValueOf_any (v : Value) (x : TileD) (ch : Int) (w : World) (hv : TilR w v x) (hc : (Lit.int .u8 ch).wf = true) :
    Calls Try.prog 19 #[v, .int .u8 ch] w fun e w' => e = .returned (.int .i64 (valV x ch)) ∧ Below w.heap.size w w' := by
  obtain ⟨h0, h1⟩ := u8_wf hc
  obtain ⟨a, c, b, d, rfl⟩ := hv.shape
  have hb0 : Below w.heap.size w (w.alloc (.cells #[.string x.letters, .slice a x.values.length c, .slice b x.counts.length d, .int .i64 x.blanks] 27)) := (Below.refl _ _).alloc (Nat.le_refl _) _
  have HX := Lib.hid (hv.box 27)
  clear hv hc
  go_enter Try.func19, Try.ntmps19
  go_wp2_with fail
  refine (l02Ok_any _ a c b d x _ HX.out.c0 HX.out.c1 HX.out.c2 HX.out.c3 HX.out.l HX.out.v HX.out.n HX.out.k).mono ?_
  rintro e w1 ⟨rfl, q, rfl⟩
  cases hT : tilB x
  · have HT := Lib.hid hT
    clear hT
    go_wp2
    go_ret
    exact ⟨ret_int (valV_no HT.out _), below_drewN hb0 q⟩
  · have HT := Lib.hid hT
    clear hT
    go_wp2_with fail
    refine (l02Value_any _ x a c b d ch _ (HX.out.drewN q) (tilB_P HT.out) h0 h1).mono ?_
    rintro e w1 ⟨rfl, q2, rfl⟩
    go_wp2
    go_ret
    exact ⟨ret_int (valV_yes HT.out _), below_drewN hb0 (q + q2)⟩
theorem specCountOf_any (v : Value) (x : TileD) (ch : Int) (w : World) (hv : TilR w v x) (hc : (Lit.int .u8 ch).wf = true) :
    Calls Try.prog 21 #[v, .int .u8 ch] w fun e w' => e = .returned (.int .i64 (cntV x ch)) ∧ Below w.heap.size w w' := by
  obtain ⟨h0, h1⟩ := u8_wf hc
  obtain ⟨a, c, b, d, rfl⟩ := hv.shape
  have hb0 : Below w.heap.size w (w.alloc (.cells #[.string x.letters, .slice a x.values.length c, .slice b x.counts.length d, .int .i64 x.blanks] 27)) := (Below.refl _ _).alloc (Nat.le_refl _) _
  have HX := Lib.hid (hv.box 27)
  clear hv hc
  go_enter Try.func21, Try.ntmps21
  go_wp2_with fail
  refine (l02Ok_any _ a c b d x _ HX.out.c0 HX.out.c1 HX.out.c2 HX.out.c3 HX.out.l HX.out.v HX.out.n HX.out.k).mono ?_
  rintro e w1 ⟨rfl, q, rfl⟩
  cases hT : tilB x
  · have HT := Lib.hid hT
    clear hT
    go_wp2
    go_ret
    exact ⟨ret_int (cntV_no HT.out _), below_drewN hb0 q⟩
  · have HT := Lib.hid hT
    clear hT
    go_wp2_with fail
    refine (l02Count_any _ x a c b d ch _ (HX.out.drewN q) (tilB_P HT.out) h0 h1).mono ?_
    rintro e w1 ⟨rfl, q2, rfl⟩
    go_wp2
    go_ret
    exact ⟨ret_int (cntV_yes HT.out _), below_drewN hb0 (q + q2)⟩
set_option maxHeartbeats 1000000 in
theorem valueOf_any (v : Value) (x : TileD) (ch : Int) (w : World) (hv : TilR w v x) (H : TilP x) (_h0 : 0 ≤ ch) (_h1 : ch < 256) :
    Calls Try.prog 42 #[v, .int .u8 ch] w fun e w' => e = .returned (.int .i64 (valF x ch)) ∧ Below w.heap.size w w' := by
  obtain ⟨a, c, b, d, rfl⟩ := hv.shape
  have hb0 : Below w.heap.size w (w.alloc (.cells #[.string x.letters, .slice a x.values.length c, .slice b x.counts.length d, .int .i64 x.blanks] 27)) := (Below.refl _ _).alloc (Nat.le_refl _) _
  obtain ⟨c0, c1, c2, c3, hl, hvv, hnn, hk⟩ := hv.box 27
  obtain ⟨a', c', e1, -, hcm, hcs⟩ := hvv.shape
  injection e1 with e1 e2 e3
  subst e1
  subst e3
  have hlv := Lib.hid H.lv
  clear hv hvv hnn hk c2 c3 e2 H
  unfold maxLen at hcm hl
  rcases idxB_cases x.letters ch with hi | ⟨k, hkl, hi⟩
  · have Hi := Lib.hid hi
    clear hi
    go_enter Try.func42, Try.ntmps42
    go_wp2_with fail
    refine (Try.strings_IndexByte _ _ _).mono ?_
    rw [show Lib.indexByte x.letters.data.toList ch.toNat.toUInt8 = -1 from Hi.out]
    rintro e w1 ⟨rfl, rfl⟩
    go_wp2
    go_ret
    exact ⟨ret_int (valF_none Hi.out).symm, hb0⟩
  · have Hi := Lib.hid hi
    clear hi
    have hkv : k < x.values.length := by have := hlv.out; omega
    obtain ⟨b1, o1, rfl, hc1, hs1⟩ := hcs k hkv
    clear hcs
    go_enter Try.func42, Try.ntmps42
    go_wp2_with fail
    refine (Try.strings_IndexByte _ _ _).mono ?_
    rw [show Lib.indexByte x.letters.data.toList ch.toNat.toUInt8 = (k : Int) from Hi.out]
    rintro e w1 ⟨rfl, rfl⟩
    go_wp2
    go_ret
    exact ⟨ret_int (valF_at Hi.out hkv).symm, hb0⟩
theorem implValueOf_any (v : Value) (x : TileD) (ch : Int) (w : World) (hv : TilR w v x) (hc : (Lit.int .u8 ch).wf = true) :
    Calls Try.prog 20 #[v, .int .u8 ch] w fun e w' => e = .returned (.int .i64 (valV x ch)) ∧ Below w.heap.size w w' := by
  obtain ⟨h0, h1⟩ := u8_wf hc
  obtain ⟨a, c, b, d, rfl⟩ := hv.shape
  have hb0 : Below w.heap.size w (w.alloc (.cells #[.string x.letters, .slice a x.values.length c, .slice b x.counts.length d, .int .i64 x.blanks] 27)) := (Below.refl _ _).alloc (Nat.le_refl _) _
  have HX := Lib.hid (hv.box 27)
  obtain ⟨c0, c1, c2, c3, hl, hvv, hnn, hk⟩ := hv.box 27
  clear hv hc hl hvv hnn hk
  go_enter Try.func20, Try.ntmps20
  go_wp2_with fail
  refine (implValidTiles_any _ x _ HX.out.read).mono ?_
  rintro e w1 ⟨rfl, hb1⟩
  have hbb := hb0.trans (hb1.mono hb0.size)
  have d0 := cell_below hb1 c0
  have d1 := cell_below hb1 c1
  have d2 := cell_below hb1 c2
  have d3 := cell_below hb1 c3
  have HX2 := Lib.hid (HX.out.below hb1)
  clear c0 c1 c2 c3 HX hb0 hb1
  cases hT : tilB x
  · have HT := Lib.hid hT
    clear hT
    go_wp2
    go_ret
    exact ⟨ret_int (valV_no HT.out _), hbb⟩
  · have HT := Lib.hid hT
    clear hT
    go_wp2_with fail
    refine (valueOf_any _ x ch _ HX2.out.read (tilB_P HT.out) h0 h1).mono ?_
    rintro e w2 ⟨rfl, hb2⟩
    go_wp2
    go_ret
    exact ⟨ret_int (valV_yes HT.out _), hbb.trans (hb2.mono hbb.size)⟩
set_option maxHeartbeats 1000000 in
theorem implCountOf_any (v : Value) (x : TileD) (ch : Int) (w : World) (hv : TilR w v x) (hc : (Lit.int .u8 ch).wf = true) :
    Calls Try.prog 22 #[v, .int .u8 ch] w fun e w' => e = .returned (.int .i64 (cntV x ch)) ∧ Below w.heap.size w w' := by
  obtain ⟨h0, h1⟩ := u8_wf hc
  obtain ⟨a, c, b, d, rfl⟩ := hv.shape
  have hb0 : Below w.heap.size w (w.alloc (.cells #[.string x.letters, .slice a x.values.length c, .slice b x.counts.length d, .int .i64 x.blanks] 27)) := (Below.refl _ _).alloc (Nat.le_refl _) _
  have HX := Lib.hid (hv.box 27)
  obtain ⟨c0, c1, c2, c3, hl, hvv, hnn, hk⟩ := hv.box 27
  clear hv hc hvv hnn hk
  cases hT : tilB x
  · have HT := Lib.hid hT
    clear hT
    go_enter Try.func22, Try.ntmps22
    go_wp2_with fail
    refine (implValidTiles_any _ x _ HX.out.read).mono ?_
    rw [HT.out]
    rintro e w1 ⟨rfl, hb1⟩
    have hbb := hb0.trans (hb1.mono hb0.size)
    go_wp2
    go_ret
    exact ⟨ret_int (cntV_no HT.out _), hbb⟩
  · have HT := Lib.hid hT
    have HP := Lib.hid (tilB_P hT)
    clear hT
    cases h6 : (ch == 63)
    · have H6 := Lib.hid (beq_eq_false_iff_ne.1 h6)
      rcases idxB_cases x.letters ch with hi | ⟨k, hkl, hi⟩
      · have Hi := Lib.hid hi
        clear hi
        go_enter Try.func22, Try.ntmps22
        go_wp2_with fail
        refine (implValidTiles_any _ x _ HX.out.read).mono ?_
        rw [HT.out]
        rintro e w1 ⟨rfl, hb1⟩
        have hbb := hb0.trans (hb1.mono hb0.size)
        have d0 := cell_below hb1 c0
        have d1 := cell_below hb1 c1
        have d2 := cell_below hb1 c2
        have d3 := cell_below hb1 c3
        clear c0 c1 c2 c3 hb0 hb1
        go_wp2_with fail
        refine (Try.strings_IndexByte _ _ _).mono ?_
        rw [show Lib.indexByte x.letters.data.toList ch.toNat.toUInt8 = -1 from Hi.out]
        rintro e w1 ⟨rfl, rfl⟩
        go_wp2
        go_ret
        exact ⟨ret_int ((cntF_none H6.out Hi.out).symm.trans (cntV_yes HT.out _)), hbb⟩
      · have Hi := Lib.hid hi
        clear hi
        have hkv : k < x.counts.length := by have := HP.out.lc; omega
        have hcap : d ≤ maxLen := by obtain ⟨b', d', e1, -, hdm, -⟩ := HX.out.n.shape; injection e1 with e1 e2 e3; subst e3; exact hdm
        unfold maxLen at hcap hl
        go_enter Try.func22, Try.ntmps22
        go_wp2_with fail
        refine (implValidTiles_any _ x _ HX.out.read).mono ?_
        rw [HT.out]
        rintro e w1 ⟨rfl, hb1⟩
        have hbb := hb0.trans (hb1.mono hb0.size)
        have d0 := cell_below hb1 c0
        have d1 := cell_below hb1 c1
        have d2 := cell_below hb1 c2
        have d3 := cell_below hb1 c3
        obtain ⟨b', d', e1, -, -, hcs⟩ := (HX.out.n.below hb1).shape
        injection e1 with e1 e2 e3
        subst e1
        subst e3
        obtain ⟨b1, o1, rfl, hc1, hs1⟩ := hcs k hkv
        clear c0 c1 c2 c3 hb0 hb1 hcs e2 HX
        go_wp2_with fail
        refine (Try.strings_IndexByte _ _ _).mono ?_
        rw [show Lib.indexByte x.letters.data.toList ch.toNat.toUInt8 = (k : Int) from Hi.out]
        rintro e w1 ⟨rfl, rfl⟩
        go_wp2
        go_ret
        exact ⟨ret_int ((cntF_at H6.out Hi.out hkv).symm.trans (cntV_yes HT.out _)), hbb⟩
    · have H6 := Lib.hid (eq_of_beq h6)
      go_enter Try.func22, Try.ntmps22
      go_wp2_with fail
      refine (implValidTiles_any _ x _ HX.out.read).mono ?_
      rw [HT.out]
      rintro e w1 ⟨rfl, hb1⟩
      have hbb := hb0.trans (hb1.mono hb0.size)
      have d3 := cell_below hb1 c3
      clear c0 c1 c2 c3 hb0 hb1
      go_wp2
      go_ret
      exact ⟨ret_int (by rw [← cntV_yes HT.out, H6.out, cntF_b]), hbb⟩
end Go.Proofs.Ytdgmndeindaobaa
