/- Contracts of CommonTiles in the program and in the reference. Condition: strings of at most 2^20 bytes. -/
import Derived.Test.YtenfdjnmkmeaiaaR
namespace Go.Proofs.Ytenfdjnmkmeaiaa
open Go.RowKit

/-- What CommonTiles comes to. -/
def commV (a b : ByteArray) : ByteArray × Int :=
  if isPile a && isPile b then (⟨(commR a.data.toList b.data.toList).toArray⟩, 0) else (⟨#[]⟩, 1)
/-- The smaller counts, up to a place. -/
def minTo (f g : Nat → Int) (k : Nat) : Nat → Int := fun j => if j < k then min (f j) (g j) else f j
theorem minTo_succ (f g : Nat → Int) (k : Nat) : upd (minTo f g k) k (min (f k) (g k)) = minTo f g (k + 1) := by
  funext j
  unfold upd minTo
  by_cases h : j = k
  · subst h; simp
  · rw [if_neg h]
    by_cases h2 : j < k
    · rw [if_pos h2, if_pos (by omega)]
    · rw [if_neg h2, if_neg (by omega)]
theorem minTo_zero (f g : Nat → Int) : minTo f g 0 = f := by funext j; simp [minTo]
theorem minTo_all (f g : Nat → Int) : cs (minTo f g 27) = cs (minC f g) := cs_congr fun k hk => by simp [minTo, minC, hk]

set_option maxHeartbeats 2000000 in
theorem implCommonTiles_any (a b : ByteArray) (w : World) (has : a.size ≤ 1048576) (hbs : b.size ≤ 1048576) :
    Calls Try.prog 21 #[.string a, .string b] w fun e w' => e = .returned (.tuple #[.string (commV a b).1, .int .i64 (commV a b).2]) ∧ Below w.heap.size w w' := by
  have hma : a.size ≤ maxLen := by unfold maxLen; omega
  have hmb : b.size ≤ maxLen := by unfold maxLen; omega
  cases hA : isPile a
  · go_enter Try.func21, Try.ntmps21
    go_wp2_with fail
    refine (ivp_any _ _ hma).mono ?_
    rintro e w1 ⟨rfl, hb1⟩
    go_wp2
    go_ret2
    exact ⟨ret_pair (r := commV a b) (by simp [commV, hA]) rfl rfl, hb1⟩
  · cases hB : isPile b
    · go_enter Try.func21, Try.ntmps21
      go_wp2_with fail
      refine (ivp_any _ _ hma).mono ?_
      rintro e w1 ⟨rfl, hb1⟩
      go_wp2_with fail
      refine (ivp_any _ _ hmb).mono ?_
      rintro e w2 ⟨rfl, hb2⟩
      go_wp2
      go_ret2
      exact ⟨ret_pair (r := commV a b) (by simp [commV, hB]) rfl rfl, hb1.trans (hb2.mono hb1.size)⟩
    · obtain ⟨ha1, ha2, ha3⟩ := pile_parts hA
      obtain ⟨hb1, hb2, hb3⟩ := pile_parts hB
      have HA := Lib.hid hA; have HB := Lib.hid hB
      have HA1 := Lib.hid ha1; have HB1 := Lib.hid hb1; have HA2 := Lib.hid ha2; have HB2 := Lib.hid hb2
      clear ha1 hb1 ha2 hb2
      go_enter Try.func21, Try.ntmps21
      go_wp2_with fail
      refine (ivp_any _ _ hma).mono ?_
      rintro e w1 ⟨rfl, hw1⟩
      go_wp2_with fail
      refine (ivp_any _ _ hmb).mono ?_
      rintro e w2 ⟨rfl, hw2⟩
      have hw2' := hw1.trans (hw2.mono hw1.size)
      go_wp2_with fail
      refine (countsOf_any _ _ (by omega) HA1.out).mono ?_
      rintro e w3 ⟨rfl, hw3⟩
      have hw3' := hw2'.trans (hw3.mono hw2'.size)
      clear hA hB
      go_wp2_with fail
      refine (countsOf_any _ _ (by omega) HB1.out).mono ?_
      rintro e w4 ⟨rfl, hw4⟩
      have hw4' := hw3'.trans (hw4.mono hw3'.size)
      clear hw1 hw2 hw2' hw3 hw3' hw4
      have hs4 := hw4'.size
      have rA := cntOf_range a (by omega)
      have rB := cntOf_range b (by omega)
      generalize hfa : cntOf a.data.toList = f at *
      generalize hgb : cntOf b.data.toList = g at *
      have HF := Lib.hid hfa; have HG := Lib.hid hgb; clear hfa hgb
      have RA := Lib.hid rA; have RB := Lib.hid rB; clear rA rB
      go_wp2_with (first
        | (refine wpList_store_row rfl 43 _ _ rfl w4.heap.size (cs f) rfl rfl _ _ (heap_alloc2_old w4 _ _) (by rw [cs_size]; exact infoCounts) (by rw [cs_size]; rfl) (cs_one _) ?_)
        | (refine wpList_store_row rfl 43 _ _ rfl (w4.heap.size + 1) (cs g) rfl rfl _ _ (by rw [setRow_other _ _ _ _ (by omega)]; exact heap_alloc2_new w4 _ _) (by rw [cs_size]; exact infoCounts) (by rw [cs_size]; rfl) (cs_one _) ?_))
      go_loopw [8, 21] (fun _ i wr => ∃ k : Nat, k ≤ 27 ∧ i = .int .i64 k ∧ wr.heap[w4.heap.size]? = some (.cells (cs (minTo f g k)) 43 (0, 0)) ∧
        wr.heap[w4.heap.size + 1]? = some (.cells (cs g) 43 (0, 0)) ∧ Below w.heap.size w wr) (fun _ i _ => 27 - (intOf i).toNat)
      case atStart =>
        refine ⟨0, Nat.zero_le _, rfl, ?_, ?_, ?_⟩
        · rw [minTo_zero, setRow_other _ _ _ _ (by omega)]
          exact setRow_heap _ _ _ _ _ _ (heap_alloc2_old w4 _ _)
        · exact setRow_heap _ _ _ _ _ _ (by rw [setRow_other _ _ _ _ (by omega)]; exact heap_alloc2_new w4 _ _)
        · exact below_setRow (below_setRow ((hw4'.alloc hs4 _).alloc (by simp; omega) _) hs4 _) (by omega) _
      case round =>
        obtain ⟨k, hk, rfl, h1, h2, hb⟩ := hrel
        by_cases hlt : k < 27
        · have hd : decide ((k : Int) < 27) = true := by simp; omega
          have hk0 : (0 : Int) ≤ (k : Int) := by omega
          have hk1 : (k : Int) < 27 := by omega
          have hcell : wr.cell? ⟨w4.heap.size, k, none⟩ = some (.int .i64 (f k)) := by
            rw [cell_of_row wr _ k _ _ _ h1, cs_get _ k hlt]; simp [minTo]
          have hcell2 : wr.cell? ⟨w4.heap.size + 1, k, none⟩ = some (.int .i64 (g k)) := by
            rw [cell_of_row wr _ k _ _ _ h2, cs_get _ k hlt]
          have hfr : wr.frozen? ⟨w4.heap.size, k, none⟩ = false := frozen_of_row wr _ k _ _ h1
          have H1 := Lib.hid h1; have H2 := Lib.hid h2; clear h1 h2
          go_wp2
          go_region
          go_wp2
          go_roundw
          case rel =>
            refine ⟨k + 1, by omega, by go_num, ?_, ?_, ?_⟩
            · show (World.setCell wr _ _).heap[_]? = _
              rw [heap_setCell_same _ _ _ _ _ _ H1.out, cs_set _ _ _ hlt, minTo_succ]
            · show (World.setCell wr _ _).heap[_]? = _
              rw [heap_setCell_other _ _ _ _ (by simp)]; exact H2.out
            · exact (hb.setCell (p := ⟨w4.heap.size, k, none⟩) hs4 _).drew
          case measure => simp [intOf]; omega
        · obtain rfl : k = 27 := by omega
          go_wp2_with (refine wpList_load_row rfl 43 _ rfl w4.heap.size rfl _ _ _ _ h1 Try.underlying43 rfl (by rw [cs_size]; exact infoCounts) ?_)
          rw [minTo_all]
          refine (pile_any _ _ (fun j _ => ?_)).mono ?_
          · have h1 := (RA.out j).2; unfold minC; omega
          rintro e w5 ⟨rfl, hw5⟩
          go_wp2
          go_ret2
          refine ⟨ret_pair (r := commV a b) (a := ⟨(commR a.data.toList b.data.toList).toArray⟩) (n := 0) (by simp [commV, HA.out, HB.out]) ?_ rfl, hb.trans (hw5.mono hb.size)⟩
          rw [commR_pile HA2.out HB2.out HA1.out, HF.out, HG.out]
theorem commR_step_lt (a b : List UInt8) (i k : Nat) (hi : i < a.length) (hk : k < b.length) (h : a[i].toNat < b[k].toNat) : commR (a.drop i) (b.drop k) = commR (a.drop (i + 1)) (b.drop k) := by
  rw [List.drop_eq_getElem_cons hi, List.drop_eq_getElem_cons hk, commR, if_pos h, ← List.drop_eq_getElem_cons hk]
theorem commR_step_gt (a b : List UInt8) (i k : Nat) (hi : i < a.length) (hk : k < b.length) (h : b[k].toNat < a[i].toNat) : commR (a.drop i) (b.drop k) = commR (a.drop i) (b.drop (k + 1)) := by
  rw [List.drop_eq_getElem_cons hi, List.drop_eq_getElem_cons hk, commR, if_neg (by omega), if_pos h]
theorem commR_step_eq (a b : List UInt8) (i k : Nat) (hi : i < a.length) (hk : k < b.length) (h : a[i] = b[k]) : commR (a.drop i) (b.drop k) = a[i] :: commR (a.drop (i + 1)) (b.drop (k + 1)) := by
  rw [List.drop_eq_getElem_cons hi, List.drop_eq_getElem_cons hk, commR, if_neg (by rw [h]; omega), if_neg (by rw [h]; omega)]
theorem commR_done (a b : List UInt8) (h : a = [] ∨ b = []) : commR a b = [] := by
  rcases h with rfl | rfl
  · simp [commR]
  · exact commR_nil a

set_option maxHeartbeats 2000000 in
theorem specCommonTiles_any (a b : ByteArray) (w : World) (has : a.size ≤ 1048576) (hbs : b.size ≤ 1048576) :
    Calls Try.prog 20 #[.string a, .string b] w fun e w' => e = .returned (.tuple #[.string (commV a b).1, .int .i64 (commV a b).2]) ∧ Below w.heap.size w w' := by
  have hma : a.size ≤ maxLen := by unfold maxLen; omega
  have hmb : b.size ≤ maxLen := by unfold maxLen; omega
  cases hA : isPile a
  · go_enter Try.func20, Try.ntmps20
    go_wp2_with fail
    refine (svp_any _ _ hma).mono ?_
    rintro e w1 ⟨rfl, hb1⟩
    go_wp2
    go_ret2
    exact ⟨ret_pair (r := commV a b) (by simp [commV, hA]) rfl rfl, hb1⟩
  · cases hB : isPile b
    · go_enter Try.func20, Try.ntmps20
      go_wp2_with fail
      refine (svp_any _ _ hma).mono ?_
      rintro e w1 ⟨rfl, hb1⟩
      go_wp2_with fail
      refine (svp_any _ _ hmb).mono ?_
      rintro e w2 ⟨rfl, hb2⟩
      go_wp2
      go_ret2
      exact ⟨ret_pair (r := commV a b) (by simp [commV, hB]) rfl rfl, hb1.trans (hb2.mono hb1.size)⟩
    · have HA := Lib.hid hA; have HB := Lib.hid hB
      go_enter Try.func20, Try.ntmps20
      go_wp2_with fail
      refine (svp_any _ _ hma).mono ?_
      rintro e w1 ⟨rfl, hw1⟩
      go_wp2_with fail
      refine (svp_any _ _ hmb).mono ?_
      rintro e w2 ⟨rfl, hw2⟩
      have hw2' := hw1.trans (hw2.mono hw1.size)
      have hs2 := hw2'.size
      go_wp2
      clear hA hB
      go_loopw [6, 7, 8] (fun v i k wr => ∃ (n m : Nat) (out : List UInt8), n ≤ a.size ∧ m ≤ b.size ∧ i = .int .i64 n ∧ k = .int .i64 m ∧ OwnB wr w.heap.size v out ∧ out.length ≤ n ∧
        commR a.data.toList b.data.toList = out ++ commR (a.data.toList.drop n) (b.data.toList.drop m) ∧ Below w.heap.size w wr) (fun _ i k _ => (a.size - (intOf i).toNat) + (b.size - (intOf k).toNat))
      case atStart => exact ⟨0, 0, [], Nat.zero_le _, Nat.zero_le _, rfl, rfl, OwnB.made w2 _ hs2, Nat.le_refl _, by simp, hw2'.alloc hs2 _⟩
      case round =>
        obtain ⟨n, m, out, hn, hm, rfl, rfl, hown, hol, heq, hb⟩ := hrel
        have Heq := Lib.hid heq; clear heq
        by_cases hlt : n < a.size
        · by_cases hml : m < b.size
          · rcases Nat.lt_trichotomy a[n].toNat b[m].toNat with hc | hc | hc
            · have hd : decide ((a[n].toNat : Int) < (b[m].toNat : Int)) = true := by simp; omega
              go_wp2
              go_quiet (fail)
              go_wp2
              go_roundw
              case rel => exact ⟨n + 1, m, out, by omega, hm, by go_num, rfl, hown.below (below_drewN (Below.refl _ _) _), by omega, by rw [Heq.out, commR_step_lt _ _ n m (by simpa using hlt) (by simpa using hml) hc], below_drewN hb _⟩
              case measure => simp [intOf]; omega
            · have hab : a[n] = b[m] := UInt8.toNat_inj.1 hc
              have Hab := Lib.hid hab; clear hab
              have hd : decide (a[n].toNat < b[m].toNat) = false := by simp; omega
              have hd2 : decide (b[m].toNat < a[n].toNat) = false := by simp; omega
              have Hc := Lib.hid hc; clear hc
              have hbs' := hb.size
              go_wp2
              go_quiet (fail)
              go_wp2
              go_quiet (fail)
              go_wp2_with (at_builtin; refine app_byte rfl _ _ rfl w.heap.size _ out rfl (by first | exact (hown.below (below_drewN (Below.refl _ _) _)).below (below_drewN (Below.refl _ _) _) | exact hown.below (below_drewN (Below.refl _ _) _)) a[n] rfl (by omega) hbs' ?_; intro g cap w3 hown1 hbel1 _)
              go_roundw
              case rel => exact ⟨n + 1, m + 1, out ++ [a[n]], by omega, by omega, by go_num, by go_num, hown1, by simp; omega, by rw [Heq.out, commR_step_eq _ _ n m (by simpa using hlt) (by simpa using hml) Hab.out, List.append_assoc]; rfl, hbel1 _ (by first | exact below_drewN (below_drewN hb _) _ | exact below_drewN hb _)⟩
              case measure => simp [intOf]; omega
            · have hd : decide (a[n].toNat < b[m].toNat) = false := by simp; omega
              have hd2 : decide (b[m].toNat < a[n].toNat) = true := by simp; omega
              have Hc := Lib.hid hc; clear hc
              go_wp2
              go_quiet (fail)
              go_wp2
              go_quiet (fail)
              go_wp2
              go_roundw
              case rel => exact ⟨n, m + 1, out, by omega, by omega, rfl, by go_num, (by first | exact (hown.below (below_drewN (Below.refl _ _) _)).below (below_drewN (Below.refl _ _) _) | exact hown.below (below_drewN (Below.refl _ _) _)), by omega, by rw [Heq.out, commR_step_gt _ _ n m (by simpa using hlt) (by simpa using hml) Hc.out], (by first | exact below_drewN (below_drewN hb _) _ | exact below_drewN hb _)⟩
              case measure => simp [intOf]; omega
          · have hd : decide ((m : Int) < (b.size : Int)) = false := by simp; omega
            have hcv := hown.conv
            go_wp2
            go_ret2
            refine ⟨ret_pair (r := commV a b) (a := ⟨out.toArray⟩) (n := 0) ?_ rfl rfl, hb⟩
            have h := Heq.out
            rw [commR_done _ _ (.inr (List.drop_eq_nil_of_le (by simp; omega))), List.append_nil] at h
            simp [commV, HA.out, HB.out, h]
        · have hd : decide ((n : Int) < (a.size : Int)) = false := by simp; omega
          have hcv := hown.conv
          go_wp2
          go_ret2
          refine ⟨ret_pair (r := commV a b) (a := ⟨out.toArray⟩) (n := 0) ?_ rfl rfl, hb⟩
          have h := Heq.out
          rw [commR_done _ _ (.inl (List.drop_eq_nil_of_le (by simp; omega))), List.append_nil] at h
          simp [commV, HA.out, HB.out, h]
end Go.Proofs.Ytenfdjnmkmeaiaa
