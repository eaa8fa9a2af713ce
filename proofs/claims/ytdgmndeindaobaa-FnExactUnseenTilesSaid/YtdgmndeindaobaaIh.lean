/- Tile sets: LettersValue (l02Sum, lettersValue). No condition but the readings and the sizes. -/
import Derived.Test.YtdgmndeindaobaaIg
import Derived.IntWalk
namespace Go.Proofs.Ytdgmndeindaobaa
open Go.RowKit
/-- The sum of the values of bytes. -/
def sumV (x : TileD) (l : List UInt8) : Int := (l.map fun c => valF x (c.toNat : Int)).sum
theorem sumV_take (x : TileD) (s : ByteArray) (j : Nat) (h : j < s.size) : sumV x (s.data.toList.take (j + 1)) = sumV x (s.data.toList.take j) + valF x (s[j].toNat : Int) := by
  have hj : j < s.data.toList.length := by simpa using h
  unfold sumV
  rw [List.take_succ_eq_append_getElem hj, List.map_append, List.sum_append]
  simp [ByteArray.getElem_eq_getElem_data]
theorem sumV_bd {x : TileD} (H : TilP x) (l : List UInt8) : 0 ≤ sumV x l ∧ sumV x l ≤ 20 * (l.length : Int) := by
  unfold sumV
  induction l with
  | nil => simp
  | cons c l ih => have := valF_bd H (c.toNat : Int); simp only [List.map_cons, List.sum_cons, List.length_cons]; omega
theorem sumV_bd2 {x : TileD} (H : TilP x) (s : ByteArray) (hs : s.size ≤ 1048576) (j : Nat) : 0 ≤ sumV x (s.data.toList.take j) ∧ sumV x (s.data.toList.take j) ≤ 20971520 := by
  have h1 := sumV_bd H (s.data.toList.take j)
  have h2 : (s.data.toList.take j).length ≤ s.size := by simp; omega
  omega
theorem sumV_all (x : TileD) (s : ByteArray) (j : Nat) (hj : j ≤ s.size) (h : ¬ j < s.size) : sumV x (s.data.toList.take j) = sumV x s.data.toList := by
  rw [List.take_of_length_le (by simp; omega)]
noncomputable def letV (x : TileD) (s : ByteArray) : Int := if tilB x = true then sumV x s.data.toList else 0
theorem letV_no {x : TileD} (h : tilB x = false) (s : ByteArray) : 0 = letV x s := by simp [letV, h]
theorem letV_yes {x : TileD} (h : tilB x = true) (s : ByteArray) : sumV x s.data.toList = letV x s := by simp [letV, h]
attribute [local irreducible] Calls
set_option maxHeartbeats 1000000 in
theorem l02Sum_any (g : Nat) (x : TileD) (a : Option Addr) (c : Nat) (b : Option Addr) (d : Nat) (s : ByteArray) (w : World) (hx : TilBox w g x a c b d) (H : TilP x) (hs : s.size ≤ 1048576) :
    Calls Try.prog 45 #[.pointer (some ⟨g, 0, none⟩), .string s] w fun e w' => e = .returned (.int .i64 (sumV x s.data.toList)) ∧ ∃ q, w' = w.drewN q := by
  have HX := Lib.hid hx
  have HP := Lib.hid H
  clear hx H
  go_enter Try.func45, Try.ntmps45
  go_wp2
  go_loopw [5, 6] (fun t i wr => ∃ j q : Nat, j ≤ s.size ∧ i = .int .i64 (j : Int) ∧ t = .int .i64 (sumV x (s.data.toList.take j)) ∧ wr = w.drewN q) (fun _ i _ => s.size - (intOf i).toNat)
  case atStart => exact ⟨0, 0, by omega, rfl, rfl, rfl⟩
  case round =>
    obtain ⟨j, q, hj, rfl, rfl, hw⟩ := hrel
    have Hw := Lib.hid hw
    have HXr := Lib.hid (show TilBox wr g x a c b d by rw [hw]; exact HX.out.drewN q)
    clear hw
    by_cases hlt : j < s.size
    · obtain ⟨hs1, hs2⟩ := sumV_bd2 HP.out s hs j
      obtain ⟨hv1, hv2⟩ := valF_bd HP.out (s[j].toNat : Int)
      have Hst := Lib.hid (sumV_take x s j hlt)
      have hb8 : (s[j].toNat : Int) < 256 := by have := UInt8.toNat_lt s[j]; omega
      have hjI : (j : Int) < (s.size : Int) := by omega
      go_wp2_with fail
      refine (l02Value_any g x a c b d _ _ HXr.out HP.out (by omega) hb8).mono ?_
      rintro e w1 ⟨rfl, q1, rfl⟩
      go_wp2
      go_roundw
      case rel => exact ⟨j + 1, q + q1, by omega, by go_num, by rw [Hst.out], by rw [Hw.out, drewN_two]⟩
      case measure => simp [intOf]; omega
    · go_wp2
      go_ret
      exact ⟨ret_int (sumV_all x s j hj hlt), q, Hw.out⟩
set_option maxHeartbeats 2000000 in
theorem lettersValue_any (v : Value) (x : TileD) (s : ByteArray) (w : World) (hv : TilR w v x) (H : TilP x) (hs : s.size ≤ 1048576) :
    Calls Try.prog 46 #[v, .string s] w fun e w' => e = .returned (.int .i64 (sumV x s.data.toList)) ∧ Below w.heap.size w w' := by
  obtain ⟨a, c, b, d, rfl⟩ := hv.shape
  have hb0 : Below w.heap.size w (w.alloc (.cells #[.string x.letters, .slice a x.values.length c, .slice b x.counts.length d, .int .i64 x.blanks] 27)) := (Below.refl _ _).alloc (Nat.le_refl _) _
  have HX := Lib.hid (hv.box 27)
  have HP := Lib.hid H
  clear hv H
  go_enter Try.func46, Try.ntmps46
  go_wp2
  go_loopw [5, 6] (fun t i wr => ∃ j : Nat, j ≤ s.size ∧ i = .int .i64 (j : Int) ∧ t = .int .i64 (sumV x (s.data.toList.take j)) ∧ Hid (TilBox wr w.heap.size x a c b d) ∧ Below w.heap.size w wr) (fun _ i _ => s.size - (intOf i).toNat)
  case atStart => exact ⟨0, by omega, rfl, rfl, HX, hb0⟩
  case round =>
    obtain ⟨j, hj, rfl, rfl, HXr, hbr⟩ := hrel
    clear HX hb0
    by_cases hlt : j < s.size
    · obtain ⟨hs1, hs2⟩ := sumV_bd2 HP.out s hs j
      obtain ⟨hv1, hv2⟩ := valF_bd HP.out (s[j].toNat : Int)
      have Hst := Lib.hid (sumV_take x s j hlt)
      have hb8 : (s[j].toNat : Int) < 256 := by have := UInt8.toNat_lt s[j]; omega
      have hjI : (j : Int) < (s.size : Int) := by omega
      have k0 := HXr.out.c0
      have k1 := HXr.out.c1
      have k2 := HXr.out.c2
      have k3 := HXr.out.c3
      have HB := Lib.hid hbr
      clear hbr
      go_wp2
      go_region_held3 (fun w' => w'.cell? ⟨w.heap.size, 0, none⟩ = some (.string x.letters) ∧ w'.cell? ⟨w.heap.size, 1, none⟩ = some (.slice a x.values.length c) ∧ w'.cell? ⟨w.heap.size, 2, none⟩ = some (.slice b x.counts.length d) ∧ w'.cell? ⟨w.heap.size, 3, none⟩ = some (.int .i64 x.blanks) ∧ Below wr.heap.size wr w')
        (first | exact ⟨k0, k1, k2, k3, (Below.refl _ _).drew⟩ | exact keepC hbk (by assumption) fun h => keepC hbk h fun h => keepC hbk h fun h => keepC hbk h fun h => keepE hbk h)
        (first
          | (go_at_call 42; refine (valueOf_any _ x _ _ ((fun (h : _ ∧ _ ∧ _ ∧ _ ∧ Below wr.heap.size wr _) => (HXr.out.below h.2.2.2.2).read) (by assumption)) HP.out (by omega) hb8).mono ?_; rintro e w1 ⟨rfl, hbk⟩))
      have hb := (by assumption : _ ∧ _ ∧ _ ∧ _ ∧ Below wr.heap.size wr w1).2.2.2.2
      have HXn := Lib.hid (HXr.out.below hb)
      have HBn := Lib.hid (HB.out.trans (hb.mono HB.out.size))
      clear hb
      go_wp2
      go_roundw
      case rel => exact ⟨j + 1, by omega, by go_num, by rw [Hst.out, IntWalk.i64_in _ (by omega)], HXn, HBn.out⟩
      case measure => simp [intOf]; omega
    · go_wp2
      go_ret
      exact ⟨ret_int (sumV_all x s j hj hlt), hbr⟩
theorem specLettersValue_any (v : Value) (x : TileD) (s : ByteArray) (w : World) (hv : TilR w v x) (hs : s.size ≤ 1048576) :
    Calls Try.prog 23 #[v, .string s] w fun e w' => e = .returned (.int .i64 (letV x s)) ∧ Below w.heap.size w w' := by
  obtain ⟨a, c, b, d, rfl⟩ := hv.shape
  have hb0 : Below w.heap.size w (w.alloc (.cells #[.string x.letters, .slice a x.values.length c, .slice b x.counts.length d, .int .i64 x.blanks] 27)) := (Below.refl _ _).alloc (Nat.le_refl _) _
  have HX := Lib.hid (hv.box 27)
  clear hv
  go_enter Try.func23, Try.ntmps23
  go_wp2_with fail
  refine (l02Ok_any _ a c b d x _ HX.out.c0 HX.out.c1 HX.out.c2 HX.out.c3 HX.out.l HX.out.v HX.out.n HX.out.k).mono ?_
  rintro e w1 ⟨rfl, q, rfl⟩
  cases hT : tilB x
  · have HT := Lib.hid hT
    clear hT
    go_wp2
    go_ret
    exact ⟨ret_int (letV_no HT.out _), below_drewN hb0 q⟩
  · have HT := Lib.hid hT
    clear hT
    go_wp2_with fail
    refine (l02Sum_any _ x a c b d s _ (HX.out.drewN q) (tilB_P HT.out) hs).mono ?_
    rintro e w1 ⟨rfl, q2, rfl⟩
    go_wp2
    go_ret
    exact ⟨ret_int (letV_yes HT.out _), below_drewN hb0 (q + q2)⟩
theorem implLettersValue_any (v : Value) (x : TileD) (s : ByteArray) (w : World) (hv : TilR w v x) (hs : s.size ≤ 1048576) :
    Calls Try.prog 24 #[v, .string s] w fun e w' => e = .returned (.int .i64 (letV x s)) ∧ Below w.heap.size w w' := by
  obtain ⟨a, c, b, d, rfl⟩ := hv.shape
  have hb0 : Below w.heap.size w (w.alloc (.cells #[.string x.letters, .slice a x.values.length c, .slice b x.counts.length d, .int .i64 x.blanks] 27)) := (Below.refl _ _).alloc (Nat.le_refl _) _
  have HX := Lib.hid (hv.box 27)
  obtain ⟨c0, c1, c2, c3, hl, hvv, hnn, hk⟩ := hv.box 27
  clear hv hl hvv hnn hk
  go_enter Try.func24, Try.ntmps24
  go_wp2_with fail
  refine (implValidTiles_any _ x _ HX.out.read).mono ?_
  rintro e w1 ⟨rfl, hb1⟩
  have hbb := hb0.trans (hb1.mono hb0.size)
  have d0 := cell_below hb1 c0
  have d1 := cell_below hb1 c1
  have d2 := cell_below hb1 c2
  have d3 := cell_below hb1 c3
  have HX2 := Lib.hid (HX.out.below hb1)
  clear c0 c1 c2 c3 HX hb0 hb1
  cases hT : tilB x
  · have HT := Lib.hid hT
    clear hT
    go_wp2
    go_ret
    exact ⟨ret_int (letV_no HT.out _), hbb⟩
  · have HT := Lib.hid hT
    clear hT
    go_wp2_with fail
    refine (lettersValue_any _ x s _ HX2.out.read (tilB_P HT.out) hs).mono ?_
    rintro e w2 ⟨rfl, hb2⟩
    go_wp2
    go_ret
    exact ⟨ret_int (letV_yes HT.out _), hbb.trans (hb2.mono hbb.size)⟩
end Go.Proofs.Ytdgmndeindaobaa
