/- Tile sets: all tiles (l02Repeat, l02All, allTiles), AllTiles, TotalValue. No condition but the readings. -/
import Derived.Test.YtinmmbnlflmobaaGreatDoorIh
import Derived.Test.YtinmmbnlflmobaaGreatDoorSb
import Derived.Test.YtinmmbnlflmobaaGreatDoorA
namespace Go.Proofs.YtinmmbnlflmobaaGreatDoor
open Go.RowKit
theorem IsB.below {B b : Nat} {l : List UInt8} {w w' : World} (h : IsB B b l w) (hb : Below w.heap.size w w') : IsB B b l w' := by
  have hat : ∀ p, Lib.BuilderAt 67 5 B b p (Lib.byteCells l) w → Lib.BuilderAt 67 5 B b p (Lib.byteCells l) w' := by
    rintro p ⟨hB, v, hbk, hown, hne⟩
    refine ⟨hB, v, (hb.block b (Array.getElem?_eq_some_iff.1 hbk).1).trans hbk, ?_, hne⟩
    exact World.ownsRow.kept hown ⟨hb.os, hb.tape, hb.output, hb.size, fun k hk _ => hb.block k hk⟩ (by cases v.ownBlock <;> simp) (row := none)
  exact h.imp (hat _) (hat _)
theorem ba_data_appJ (a b : ByteArray) : (a ++ b).data.toList = a.data.toList ++ b.data.toList := by simp
/-- The blanks and the tiles of the first j letters. -/
def allTo (x : TileD) (j : Nat) : List UInt8 := List.replicate x.blanks.toNat 63 ++ (List.range j).flatMap fun i => List.replicate (x.counts.getD i 0).toNat (x.letters.data.toList.getD i 0)
def allB (x : TileD) : ByteArray := ⟨(allTo x x.letters.size).toArray⟩
theorem allTo_zero (x : TileD) : allTo x 0 = List.replicate x.blanks.toNat 63 := by simp [allTo]
theorem allTo_succ (x : TileD) (j : Nat) (hj : j < x.letters.size) (hc : j < x.counts.length) : allTo x (j + 1) = allTo x j ++ List.replicate x.counts[j].toNat x.letters[j] := by
  unfold allTo
  rw [List.range_succ, List.flatMap_append, ← List.append_assoc]
  simp only [List.flatMap_cons, List.flatMap_nil, List.append_nil]
  rw [List.getD_eq_getElem?_getD, List.getElem?_eq_getElem hc, List.getD_eq_getElem?_getD, List.getElem?_eq_getElem (by simpa using hj)]
  rfl
theorem allTo_len {x : TileD} (H : TilP x) (j : Nat) (hj : j ≤ x.letters.size) : ((allTo x j).length : Int) = x.blanks + (x.counts.take j).sum := by
  have hb0 := H.b0
  induction j with
  | zero => rw [allTo_zero]; simp; omega
  | succ j ih =>
    have hc : j < x.counts.length := by have := H.lc; omega
    have := ih (by omega)
    have h1 := (H.co j hc).1
    rw [allTo_succ x j (by omega) hc, sum_take _ _ hc, List.length_append, List.length_replicate]
    omega
theorem sum_take_le {x : TileD} (H : TilP x) (d j : Nat) (hj : j + d = x.counts.length) : (x.counts.take j).sum ≤ x.counts.sum := by
  induction d generalizing j with
  | zero => rw [List.take_of_length_le (by omega)]; exact Int.le_refl _
  | succ d ih =>
    have h1 := ih (j + 1) (by omega)
    have hc : j < x.counts.length := by omega
    have := (H.co j hc).1
    rw [sum_take _ _ hc] at h1
    omega
theorem allTo_le {x : TileD} (H : TilP x) (j : Nat) (hj : j ≤ x.letters.size) : (allTo x j).length ≤ 120 := by
  have h1 := allTo_len H j hj
  have h2 := sum_take_le H (x.counts.length - j) j (by have := H.lc; omega)
  have h3 := H.su
  omega
theorem rep_one (c : UInt8) (n : Nat) : Lib.repeatL [c] n = List.replicate n c := by
  have := Lib.repeatL_replicate c 1 n
  simpa using this
theorem ext_oneJ (s : ByteArray) (k : Nat) (h : k < s.size) : (s.extract k (k + 1)).data.toList = [s[k]] := by
  rw [ByteArray.data_extract, Array.toList_extract]
  simp only [List.extract_eq_take_drop]
  have hk : k < s.data.toList.length := by simpa using h
  rw [List.drop_eq_getElem_cons hk, show k + 1 - k = 1 by omega]
  rfl
theorem ba_ofJ {r : ByteArray} {l : List UInt8} (h : r.data.toList = l) : r = ⟨l.toArray⟩ := by
  subst h; rfl
theorem ba_lenJ {r : ByteArray} {l : List UInt8} (h : r.data.toList = l) : r.size = l.length := by
  subst h; exact Array.length_toList.symm
attribute [local irreducible] Calls
theorem repeat_any (s : ByteArray) (z : Int) (c : UInt8) (n : Nat) (w : World) (hs : s.data.toList = [c]) (hz : z = (n : Int)) (hn : n ≤ 1048576) :
    Calls Tryz.prog 37 #[.string s, .int .i64 z] w fun e w' => ∃ r : ByteArray, e = .returned (.string r) ∧ r.data.toList = List.replicate n c ∧ Below w.heap.size w w' := by
  subst hz
  refine (Tryz.strings_Repeat s n w (by omega) ?_).mono ?_
  · rw [ba_lenJ hs]; simp; omega
  · rintro e w' ⟨rfl, hb⟩
    exact ⟨_, rfl, by rw [hs, rep_one], hb⟩
theorem TilBox.partJ {w w' : World} {g x a c b d B} (h : TilBox w g x a c b d) (hb : Below B w w') (hg : g < B) (hv : Ints w' (.slice a x.values.length c) x.values) (hn : Ints w' (.slice b x.counts.length d) x.counts) : TilBox w' g x a c b d :=
  ⟨(hb.cell (p := ⟨g, 0, none⟩) hg).trans h.c0, (hb.cell (p := ⟨g, 1, none⟩) hg).trans h.c1, (hb.cell (p := ⟨g, 2, none⟩) hg).trans h.c2, (hb.cell (p := ⟨g, 3, none⟩) hg).trans h.c3, h.l, hv, hn, h.k⟩
set_option maxHeartbeats 2000000 in
set_option maxRecDepth 20000 in
theorem allTiles_any (v : Value) (x : TileD) (w : World) (hv : TilR w v x) (H : TilP x) :
    Calls Tryz.prog 18 #[v] w fun e w' => e = .returned (.string (allB x)) ∧ Below w.heap.size w w' := by
  obtain ⟨a, c, b, d, rfl⟩ := hv.shape
  have hb0 : Below w.heap.size w (w.alloc (.cells #[.string x.letters, .slice a x.values.length c, .slice b x.counts.length d, .int .i64 x.blanks] 26)) := (Below.refl _ _).alloc (Nat.le_refl _) _
  have HX := Lib.hid ((hv.box 26).alloc (.cells #[.pointer none, .slice none 0 0] 67))
  have HB0 := Lib.hid (hb0.alloc (by simp) (.cells #[.pointer none, .slice none 0 0] 67))
  have hI := IsB.fresh (w.alloc (.cells #[.string x.letters, .slice a x.values.length c, .slice b x.counts.length d, .int .i64 x.blanks] 26)) (w.heap.size + 1) (by simp)
  rw [World.size_alloc] at hI
  have HI := Lib.hid hI
  have HP := Lib.hid H
  have HV := Lib.hid hv.parts.2.1
  have HN := Lib.hid hv.parts.2.2.1
  have c3 := HX.out.c3
  obtain ⟨b', d', e1, -, hdm, -⟩ := HX.out.n.shape
  injection e1 with e1 e2 e3
  subst e1
  subst e3
  unfold maxLen at hdm
  have hl26 := H.n2
  have hb4 := H.b4
  have hbl0 := H.b0
  have hlc := Lib.hid H.lc
  clear hv H e2 hb0 hI
  go_enter Tryz.func18, Tryz.ntmps18
  go_wp2_with fail
  refine (repeat_any _ _ 63 x.blanks.toNat _ rfl (by omega) (by omega)).mono ?_
  rintro e w1 ⟨r0, rfl, hr0, hb1⟩
  have HX1 := Lib.hid (HX.out.below hb1)
  have HB1 := Lib.hid (HB0.out.trans (hb1.mono HB0.out.size))
  have HI1 := Lib.hid (HI.out.below hb1)
  have hsz1 : w.heap.size + 1 ≤ w1.heap.size := by have := hb1.size; simp at this; omega
  have HR0 := Lib.hid hr0
  have hr0s : r0.size ≤ 4 := by rw [ba_lenJ hr0, List.length_replicate]; omega
  clear HX HB0 HI hb1 c3 hr0
  go_wp2_with fail
  refine (writeString_any (w.heap.size + 1) (w.heap.size + 1) [] r0 _ HI1.out (by simp; omega) hsz1).mono ?_
  rintro e w2 ⟨rfl, hI2, hb2⟩
  have HB2 := Lib.hid (HB1.out.trans (hb2.mono (Nat.le_succ _)))
  have HX2 := Lib.hid (HX1.out.partJ hb2 (Nat.lt_succ_self _) (HV.out.below HB2.out) (HN.out.below HB2.out))
  have HI2 := Lib.hid (show IsB (w.heap.size + 1) (w.heap.size + 1) (allTo x 0) w2 by rw [allTo_zero, ← HR0.out]; exact hI2)
  have hsz2 : w.heap.size + 1 ≤ w2.heap.size := Nat.le_trans hsz1 hb2.size
  have c2 := HX2.out.c2
  clear HX1 HB1 HI1 hI2 hb2 HR0 hsz1
  go_wp2
  go_loopw [13] (fun i wr => ∃ j : Nat, j ≤ x.counts.length ∧ i = .int .i64 (j : Int) ∧ Hid (IsB (w.heap.size + 1) (w.heap.size + 1) (allTo x j) wr) ∧ Hid (TilBox wr w.heap.size x a c b d) ∧ Below w.heap.size w wr ∧ w.heap.size + 1 ≤ wr.heap.size) (fun i _ => x.counts.length - (intOf i).toNat)
  case atStart => exact ⟨0, by omega, rfl, HI2, HX2, HB2.out, hsz2⟩
  case round =>
    obtain ⟨j, hj, rfl, HIr, HXr, hbr, hszr⟩ := hrel
    have HB := Lib.hid hbr
    have k0 := HXr.out.c0
    clear hbr HX2 HB2 HI2 c2 hsz2
    by_cases hlt : j < x.counts.length
    · have hltl : j < x.letters.size := by have := hlc.out; omega
      obtain ⟨b', d', e1, -, -, hcs⟩ := HXr.out.n.shape
      injection e1 with e1 e2 e3
      subst e1
      subst e3
      obtain ⟨b1, o1, rfl, hc1, hs1⟩ := hcs j hlt
      obtain ⟨hco1, hco2⟩ := HP.out.co j hlt
      have Hst := Lib.hid (allTo_succ x j hltl hlt)
      have hle : (allTo x j).length ≤ 120 := allTo_le HP.out j (by omega)
      have hltI : (j : Int) < (x.letters.size : Int) := by omega
      have hltI2 : (j : Int) + 1 ≤ (x.letters.size : Int) := by omega
      clear hcs e2
      go_wp2_with fail
      refine (repeat_any _ _ x.letters[j] x.counts[j].toNat _ (ext_oneJ _ _ hltl) (by omega) (by omega)).mono ?_
      rintro e w3 ⟨r2, rfl, hr2, hb3⟩
      have hr2s : r2.size ≤ 20 := by rw [ba_lenJ hr2, List.length_replicate]; omega
      have HR2 := Lib.hid hr2
      have HX3 := Lib.hid (HXr.out.below hb3)
      have HB3 := Lib.hid (HB.out.trans (hb3.mono HB.out.size))
      have HI3 := Lib.hid (HIr.out.below hb3)
      have hsz3 : w.heap.size + 1 ≤ w3.heap.size := Nat.le_trans hszr hb3.size
      clear hr2 hb3 HXr HB HIr k0 hc1
      go_wp2_with fail
      refine (writeString_any (w.heap.size + 1) (w.heap.size + 1) _ r2 _ HI3.out (by omega) hsz3).mono ?_
      rintro e w4 ⟨rfl, hI4, hb4⟩
      have HB4 := Lib.hid (HB3.out.trans (hb4.mono (Nat.le_succ _)))
      have HX4 := Lib.hid (HX3.out.partJ hb4 (Nat.lt_succ_self _) (HV.out.below HB4.out) (HN.out.below HB4.out))
      have HI4 := Lib.hid (show IsB (w.heap.size + 1) (w.heap.size + 1) (allTo x (j + 1)) w4 by rw [Hst.out, ← HR2.out]; exact hI4)
      have hsz4 : w.heap.size + 1 ≤ w4.heap.size := Nat.le_trans hsz3 hb4.size
      clear HX3 HB3 HI3 hI4 hb4 HR2
      go_wp2
      go_roundw
      case rel => exact ⟨j + 1, by omega, by go_num, HI4, HX4, HB4.out, hsz4⟩
      case measure => simp [intOf]; omega
    · go_wp2_with fail
      refine (Tryz.Builder_String_any (w.heap.size + 1) (w.heap.size + 1) _ _ HIr.out hszr).mono ?_
      rintro e w2 ⟨rfl, hb2⟩
      go_wp2
      go_ret
      obtain rfl : j = x.counts.length := by omega
      exact ⟨ret_str (by rw [hlc.out]; rfl), HB.out.trans (hb2.mono (Nat.le_succ _))⟩
/-- AllTiles, TotalValue. -/
noncomputable def allV (x : TileD) : ByteArray × Int := if tilB x = true then (allB x, 0) else (⟨#[]⟩, 1)
noncomputable def totV (x : TileD) : Int × Int := if tilB x = true then (sumV x (allB x).data.toList, 0) else (0, 1)
theorem allV_no {x : TileD} (h : tilB x = false) : allV x = (⟨#[]⟩, 1) := by simp [allV, h]
theorem allV_yes {x : TileD} (h : tilB x = true) : allV x = (allB x, 0) := by simp [allV, h]
theorem totV_no {x : TileD} (h : tilB x = false) : totV x = (0, 1) := by simp [totV, h]
theorem totV_yes {x : TileD} (h : tilB x = true) : totV x = (sumV x (allB x).data.toList, 0) := by simp [totV, h]
theorem ret_ii {n m : Int} {r : Int × Int} (h : r = (n, m)) : Ending.returned (.tuple #[.int .i64 n, .int .i64 m]) = .returned (.tuple #[.int .i64 r.1, .int .i64 r.2]) := by rw [h]
theorem ret_si {b : ByteArray} {m : Int} {r : ByteArray × Int} (h : r = (b, m)) : Ending.returned (.tuple #[.string b, .int .i64 m]) = .returned (.tuple #[.string r.1, .int .i64 r.2]) := by rw [h]
theorem allB_le {x : TileD} (H : TilP x) : (allB x).size ≤ 120 := by
  have h := allTo_le H x.letters.size (Nat.le_refl _)
  have : (allB x).size = (allTo x x.letters.size).length := ba_lenJ rfl
  omega
set_option maxHeartbeats 1000000 in
theorem implAllTiles_any (v : Value) (x : TileD) (w : World) (hv : TilR w v x) :
    Calls Tryz.prog 6 #[v] w fun e w' => e = .returned (.tuple #[.string (allV x).1, .int .i64 (allV x).2]) ∧ Below w.heap.size w w' := by
  obtain ⟨a, c, b, d, rfl⟩ := hv.shape
  have hb0 : Below w.heap.size w (w.alloc (.cells #[.string x.letters, .slice a x.values.length c, .slice b x.counts.length d, .int .i64 x.blanks] 26)) := (Below.refl _ _).alloc (Nat.le_refl _) _
  have HX := Lib.hid (hv.box 26)
  obtain ⟨c0, c1, c2, c3, hl, hvv, hnn, hk⟩ := hv.box 26
  clear hv hl hvv hnn hk
  go_enter Tryz.func6, Tryz.ntmps6
  go_wp2_with fail
  refine (implValidTiles_any _ x _ HX.out.read).mono ?_
  rintro e w1 ⟨rfl, hb1⟩
  have hbb := hb0.trans (hb1.mono hb0.size)
  have d0 := cell_below hb1 c0
  have d1 := cell_below hb1 c1
  have d2 := cell_below hb1 c2
  have d3 := cell_below hb1 c3
  have HX2 := Lib.hid (HX.out.below hb1)
  clear c0 c1 c2 c3 HX hb0 hb1
  cases hT : tilB x
  · have HT := Lib.hid hT
    clear hT
    go_wp2
    go_ret2
    exact ⟨ret_si (allV_no HT.out), hbb⟩
  · have HT := Lib.hid hT
    clear hT
    go_wp2_with fail
    refine (allTiles_any _ x _ HX2.out.read (tilB_P HT.out)).mono ?_
    rintro e w2 ⟨rfl, hb2⟩
    have hbb := hbb.trans (hb2.mono hbb.size)
    go_wp2
    go_ret2
    exact ⟨ret_si (allV_yes HT.out), hbb⟩
set_option maxHeartbeats 1000000 in
theorem implTotalValue_any (v : Value) (x : TileD) (w : World) (hv : TilR w v x) :
    Calls Tryz.prog 7 #[v] w fun e w' => e = .returned (.tuple #[.int .i64 (totV x).1, .int .i64 (totV x).2]) ∧ Below w.heap.size w w' := by
  obtain ⟨a, c, b, d, rfl⟩ := hv.shape
  have hb0 : Below w.heap.size w (w.alloc (.cells #[.string x.letters, .slice a x.values.length c, .slice b x.counts.length d, .int .i64 x.blanks] 26)) := (Below.refl _ _).alloc (Nat.le_refl _) _
  have HX := Lib.hid (hv.box 26)
  obtain ⟨c0, c1, c2, c3, hl, hvv, hnn, hk⟩ := hv.box 26
  clear hv hl hvv hnn hk
  go_enter Tryz.func7, Tryz.ntmps7
  go_wp2_with fail
  refine (implValidTiles_any _ x _ HX.out.read).mono ?_
  rintro e w1 ⟨rfl, hb1⟩
  have hbb := hb0.trans (hb1.mono hb0.size)
  have d0 := cell_below hb1 c0
  have d1 := cell_below hb1 c1
  have d2 := cell_below hb1 c2
  have d3 := cell_below hb1 c3
  have HX2 := Lib.hid (HX.out.below hb1)
  clear c0 c1 c2 c3 HX hb0 hb1
  cases hT : tilB x
  · have HT := Lib.hid hT
    clear hT
    go_wp2
    go_ret2
    exact ⟨ret_ii (totV_no HT.out), hbb⟩
  · have HT := Lib.hid hT
    clear hT
    have hal := allB_le (tilB_P HT.out)
    go_wp2
    go_region_held3 (fun w' => w'.cell? ⟨w.heap.size, 0, none⟩ = some (.string x.letters) ∧ w'.cell? ⟨w.heap.size, 1, none⟩ = some (.slice a x.values.length c) ∧ w'.cell? ⟨w.heap.size, 2, none⟩ = some (.slice b x.counts.length d) ∧ w'.cell? ⟨w.heap.size, 3, none⟩ = some (.int .i64 x.blanks) ∧ Below w1.heap.size w1 w')
      (first | exact ⟨d0, d1, d2, d3, (Below.refl _ _).drew⟩ | exact keepC hbk (by assumption) fun h => keepC hbk h fun h => keepC hbk h fun h => keepC hbk h fun h => keepE hbk h)
      (first
        | (go_at_call 18; refine (allTiles_any _ x _ ((fun (h : _ ∧ _ ∧ _ ∧ _ ∧ Below w1.heap.size w1 _) => (HX2.out.below h.2.2.2.2).read) (by assumption)) (tilB_P HT.out)).mono ?_; rintro e w2 ⟨rfl, hbk⟩)
        | (go_at_call 19; refine (lettersValue_any _ x _ _ ((fun (h : _ ∧ _ ∧ _ ∧ _ ∧ Below w1.heap.size w1 _) => (HX2.out.below h.2.2.2.2).read) (by assumption)) (tilB_P HT.out) (by omega)).mono ?_; rintro e w3 ⟨rfl, hbk⟩))
    have hb := (by assumption : _ ∧ _ ∧ _ ∧ _ ∧ Below w1.heap.size w1 w3).2.2.2.2
    have hbb := hbb.trans (hb.mono hbb.size)
    go_wp2
    go_ret2
    exact ⟨ret_ii (totV_yes HT.out), hbb⟩
end Go.Proofs.YtinmmbnlflmobaaGreatDoor
