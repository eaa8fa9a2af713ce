/- Tile sets: LettersValue (l02Sum, lettersValue). No condition but the readings and the sizes. -/
import Derived.Test.YtinmmbnlflmobaaGreatDoorIg
import Derived.IntWalk
namespace Go.Proofs.YtinmmbnlflmobaaGreatDoor
open Go.RowKit
/-- The sum of the values of bytes. -/
def sumV (x : TileD) (l : List UInt8) : Int := (l.map fun c => valF x (c.toNat : Int)).sum
theorem sumV_take (x : TileD) (s : ByteArray) (j : Nat) (h : j < s.size) : sumV x (s.data.toList.take (j + 1)) = sumV x (s.data.toList.take j) + valF x (s[j].toNat : Int) := by
  have hj : j < s.data.toList.length := by simpa using h
  unfold sumV
  rw [List.take_succ_eq_append_getElem hj, List.map_append, List.sum_append]
  simp [ByteArray.getElem_eq_getElem_data]
theorem sumV_bd {x : TileD} (H : TilP x) (l : List UInt8) : 0 ≤ sumV x l ∧ sumV x l ≤ 20 * (l.length : Int) := by
  unfold sumV
  induction l with
  | nil => simp
  | cons c l ih => have := valF_bd H (c.toNat : Int); simp only [List.map_cons, List.sum_cons, List.length_cons]; omega
theorem sumV_bd2 {x : TileD} (H : TilP x) (s : ByteArray) (hs : s.size ≤ 1048576) (j : Nat) : 0 ≤ sumV x (s.data.toList.take j) ∧ sumV x (s.data.toList.take j) ≤ 20971520 := by
  have h1 := sumV_bd H (s.data.toList.take j)
  have h2 : (s.data.toList.take j).length ≤ s.size := by simp; omega
  omega
theorem sumV_all (x : TileD) (s : ByteArray) (j : Nat) (hj : j ≤ s.size) (h : ¬ j < s.size) : sumV x (s.data.toList.take j) = sumV x s.data.toList := by
  rw [List.take_of_length_le (by simp; omega)]
noncomputable def letV (x : TileD) (s : ByteArray) : Int := if tilB x = true then sumV x s.data.toList else 0
theorem letV_no {x : TileD} (h : tilB x = false) (s : ByteArray) : 0 = letV x s := by simp [letV, h]
theorem letV_yes {x : TileD} (h : tilB x = true) (s : ByteArray) : sumV x s.data.toList = letV x s := by simp [letV, h]
attribute [local irreducible] Calls
set_option maxHeartbeats 2000000 in
theorem lettersValue_any (v : Value) (x : TileD) (s : ByteArray) (w : World) (hv : TilR w v x) (H : TilP x) (hs : s.size ≤ 1048576) :
    Calls Tryz.prog 19 #[v, .string s] w fun e w' => e = .returned (.int .i64 (sumV x s.data.toList)) ∧ Below w.heap.size w w' := by
  obtain ⟨a, c, b, d, rfl⟩ := hv.shape
  have hb0 : Below w.heap.size w (w.alloc (.cells #[.string x.letters, .slice a x.values.length c, .slice b x.counts.length d, .int .i64 x.blanks] 26)) := (Below.refl _ _).alloc (Nat.le_refl _) _
  have HX := Lib.hid (hv.box 26)
  have HP := Lib.hid H
  clear hv H
  go_enter Tryz.func19, Tryz.ntmps19
  go_wp2
  go_loopw [5, 6] (fun t i wr => ∃ j : Nat, j ≤ s.size ∧ i = .int .i64 (j : Int) ∧ t = .int .i64 (sumV x (s.data.toList.take j)) ∧ Hid (TilBox wr w.heap.size x a c b d) ∧ Below w.heap.size w wr) (fun _ i _ => s.size - (intOf i).toNat)
  case atStart => exact ⟨0, by omega, rfl, rfl, HX, hb0⟩
  case round =>
    obtain ⟨j, hj, rfl, rfl, HXr, hbr⟩ := hrel
    clear HX hb0
    by_cases hlt : j < s.size
    · obtain ⟨hs1, hs2⟩ := sumV_bd2 HP.out s hs j
      obtain ⟨hv1, hv2⟩ := valF_bd HP.out (s[j].toNat : Int)
      have Hst := Lib.hid (sumV_take x s j hlt)
      have hb8 : (s[j].toNat : Int) < 256 := by have := UInt8.toNat_lt s[j]; omega
      have hjI : (j : Int) < (s.size : Int) := by omega
      have k0 := HXr.out.c0
      have k1 := HXr.out.c1
      have k2 := HXr.out.c2
      have k3 := HXr.out.c3
      have HB := Lib.hid hbr
      clear hbr
      go_wp2
      go_region_held3 (fun w' => w'.cell? ⟨w.heap.size, 0, none⟩ = some (.string x.letters) ∧ w'.cell? ⟨w.heap.size, 1, none⟩ = some (.slice a x.values.length c) ∧ w'.cell? ⟨w.heap.size, 2, none⟩ = some (.slice b x.counts.length d) ∧ w'.cell? ⟨w.heap.size, 3, none⟩ = some (.int .i64 x.blanks) ∧ Below wr.heap.size wr w')
        (first | exact ⟨k0, k1, k2, k3, (Below.refl _ _).drew⟩ | exact keepC hbk (by assumption) fun h => keepC hbk h fun h => keepC hbk h fun h => keepC hbk h fun h => keepE hbk h)
        (first
          | (go_at_call 28; refine (valueOf_any _ x _ _ ((fun (h : _ ∧ _ ∧ _ ∧ _ ∧ Below wr.heap.size wr _) => (HXr.out.below h.2.2.2.2).read) (by assumption)) HP.out (by omega) hb8).mono ?_; rintro e w1 ⟨rfl, hbk⟩))
      have hb := (by assumption : _ ∧ _ ∧ _ ∧ _ ∧ Below wr.heap.size wr w1).2.2.2.2
      have HXn := Lib.hid (HXr.out.below hb)
      have HBn := Lib.hid (HB.out.trans (hb.mono HB.out.size))
      clear hb
      go_wp2
      go_roundw
      case rel => exact ⟨j + 1, by omega, by go_num, by rw [Hst.out, IntWalk.i64_in _ (by omega)], HXn, HBn.out⟩
      case measure => simp [intOf]; omega
    · go_wp2
      go_ret
      exact ⟨ret_int (sumV_all x s j hj hlt), hbr⟩
theorem implLettersValue_any (v : Value) (x : TileD) (s : ByteArray) (w : World) (hv : TilR w v x) (hs : s.size ≤ 1048576) :
    Calls Tryz.prog 12 #[v, .string s] w fun e w' => e = .returned (.int .i64 (letV x s)) ∧ Below w.heap.size w w' := by
  obtain ⟨a, c, b, d, rfl⟩ := hv.shape
  have hb0 : Below w.heap.size w (w.alloc (.cells #[.string x.letters, .slice a x.values.length c, .slice b x.counts.length d, .int .i64 x.blanks] 26)) := (Below.refl _ _).alloc (Nat.le_refl _) _
  have HX := Lib.hid (hv.box 26)
  obtain ⟨c0, c1, c2, c3, hl, hvv, hnn, hk⟩ := hv.box 26
  clear hv hl hvv hnn hk
  go_enter Tryz.func12, Tryz.ntmps12
  go_wp2_with fail
  refine (implValidTiles_any _ x _ HX.out.read).mono ?_
  rintro e w1 ⟨rfl, hb1⟩
  have hbb := hb0.trans (hb1.mono hb0.size)
  have d0 := cell_below hb1 c0
  have d1 := cell_below hb1 c1
  have d2 := cell_below hb1 c2
  have d3 := cell_below hb1 c3
  have HX2 := Lib.hid (HX.out.below hb1)
  clear c0 c1 c2 c3 HX hb0 hb1
  cases hT : tilB x
  · have HT := Lib.hid hT
    clear hT
    go_wp2
    go_ret
    exact ⟨ret_int (letV_no HT.out _), hbb⟩
  · have HT := Lib.hid hT
    clear hT
    go_wp2_with fail
    refine (lettersValue_any _ x s _ HX2.out.read (tilB_P HT.out) hs).mono ?_
    rintro e w2 ⟨rfl, hb2⟩
    go_wp2
    go_ret
    exact ⟨ret_int (letV_yes HT.out _), hbb.trans (hb2.mono hbb.size)⟩
end Go.Proofs.YtinmmbnlflmobaaGreatDoor
