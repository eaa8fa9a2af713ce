/- Contracts of the reference's take and sort of tiles. Conditions: short strings; the sort: of tiles. -/
import Derived.Test.YthpjinfkagllfaaA
import Derived.Test.YthpjinfkagllfaaW
import Derived.BigQuiet
import Derived.Deep.QuietTactic
namespace Go.Proofs.Ythpjinfkagllfaa
open Go.RowKit

theorem takeR_step_eq (a b : List UInt8) (i k : Nat) (hi : i < a.length) (hk : k < b.length) (h : b[k] = a[i]) : takeR (a.drop i) (b.drop k) = takeR (a.drop (i + 1)) (b.drop (k + 1)) := by
  rw [List.drop_eq_getElem_cons hi, List.drop_eq_getElem_cons hk, takeR, if_pos h]
theorem takeR_step_ne (a b : List UInt8) (i k : Nat) (hi : i < a.length) (h : ∀ hk : k < b.length, b[k] ≠ a[i]) :
    takeR (a.drop i) (b.drop k) = (a[i] :: (takeR (a.drop (i + 1)) (b.drop k)).1, (takeR (a.drop (i + 1)) (b.drop k)).2) := by
  rw [List.drop_eq_getElem_cons hi]
  by_cases hk : k < b.length
  · rw [List.drop_eq_getElem_cons hk, takeR, if_neg (h hk)]
  · rw [show b.drop k = [] from List.drop_eq_nil_of_le (by omega), takeR_nil, takeR_nil]
theorem ba_get (s : ByteArray) (k : Nat) (h : k < s.size) : s.data.toList[k]'(by simpa using h) = s[k] := rfl

set_option maxHeartbeats 1000000 in
theorem l03Take_any (a b : ByteArray) (w : World) (ha : a.size ≤ 1048576) (hbs : b.size ≤ 1048576) :
    Calls Try.prog 67 #[.string a, .string b] w fun e w' => e = .returned (.tuple #[.string ⟨(takeR a.data.toList b.data.toList).1.toArray⟩, .bool (takeR a.data.toList b.data.toList).2.isEmpty]) ∧ Below w.heap.size w w' := by
  go_enter Try.func67, Try.ntmps67
  go_wp2
  go_loopw [6, 7, 8] (fun v j i wr => ∃ (k m : Nat) (out : List UInt8), k ≤ a.size ∧ m ≤ b.size ∧ i = .int .i64 k ∧ j = .int .i64 m ∧ OwnB wr w.heap.size v out ∧ out.length ≤ k ∧
      takeR a.data.toList b.data.toList = (out ++ (takeR (a.data.toList.drop k) (b.data.toList.drop m)).1, (takeR (a.data.toList.drop k) (b.data.toList.drop m)).2) ∧ Below w.heap.size w wr) (fun _ _ i _ => a.size - (intOf i).toNat)
  case atStart => exact ⟨0, 0, [], Nat.zero_le _, Nat.zero_le _, rfl, rfl, OwnB.made w _ (Nat.le_refl _), Nat.le_refl _, by simp, (Below.refl _ _).alloc (Nat.le_refl _) _⟩
  case round =>
    obtain ⟨k, m, out, hk, hm, rfl, rfl, hown, hol, heq, hb⟩ := hrel
    have Heq := Lib.hid heq; clear heq
    by_cases hlt : k < a.size
    · by_cases hml : m < b.size
      · by_cases hc : b[m] = a[k]
        · have hd : ((b[m].toNat : Int) == (a[k].toNat : Int)) = true := by rw [hc]; simp
          have Hc := Lib.hid hc; clear hc
          have hdm : decide ((m : Int) < (b.size : Int)) = true := by simp; omega
          go_wp2
          go_quiet (fail)
          go_wp2
          go_roundw
          case rel => exact ⟨k + 1, m + 1, out, by omega, by omega, by go_num, by go_num, hown.below (below_drewN (Below.refl _ _) _), by omega, by rw [Heq.out, takeR_step_eq _ _ k m (by simpa using hlt) (by simpa using hml) Hc.out], below_drewN hb _⟩
          case measure => simp [intOf]; omega
        · have hd : ((b[m].toNat : Int) == (a[k].toNat : Int)) = false := by rw [beq_eq_false_iff_ne]; intro h; exact hc (UInt8.toNat_inj.1 (by omega))
          have Hc := Lib.hid hc; clear hc
          have hdm : decide ((m : Int) < (b.size : Int)) = true := by simp; omega
          have hbs' := hb.size
          go_wp2
          go_quiet (fail)
          go_wp2_with (at_builtin; refine app_byte rfl _ _ rfl w.heap.size _ out rfl (hown.below (below_drewN (Below.refl _ _) _)) a[k] rfl (by omega) hbs' ?_; intro g cap w1 hown1 hbel1 _)
          go_roundw
          case rel => exact ⟨k + 1, m, out ++ [a[k]], by omega, by omega, by go_num, rfl, hown1, by simp; omega, by rw [Heq.out, takeR_step_ne _ _ k m (by simpa using hlt) (fun _ => Hc.out), List.append_assoc]; rfl, hbel1 _ (below_drewN hb _)⟩
          case measure => simp [intOf]; omega
      · have hdm : decide ((m : Int) < (b.size : Int)) = false := by simp; omega
        have hbs' := hb.size
        go_wp2
        go_quiet (fail)
        go_wp2_with (at_builtin; refine app_byte rfl _ _ rfl w.heap.size _ out rfl (hown.below (below_drewN (Below.refl _ _) _)) a[k] rfl (by omega) hbs' ?_; intro g cap w1 hown1 hbel1 _)
        go_roundw
        case rel => exact ⟨k + 1, m, out ++ [a[k]], by omega, by omega, by go_num, rfl, hown1, by simp; omega, by rw [Heq.out, takeR_step_ne _ _ k m (by simpa using hlt) (fun h => absurd h (by simpa using hml)), List.append_assoc]; rfl, hbel1 _ (below_drewN hb _)⟩
        case measure => simp [intOf]; omega
    · have hcv := hown.conv
      by_cases hmb : m = b.size
      · have hd : ((m : Int) == (b.size : Int)) = true := by rw [hmb]; simp
        have Hmb := Lib.hid hmb; clear hmb
        go_wp2
        go_ret2
        have h := Heq.out
        rw [List.drop_eq_nil_of_le (by simp; omega), takeR] at h
        refine ⟨?_, hb⟩
        rw [h]
        simp [Hmb.out]
      · have hd : ((m : Int) == (b.size : Int)) = false := by rw [beq_eq_false_iff_ne]; omega
        have Hmb := Lib.hid hmb; clear hmb
        go_wp2
        go_ret2
        have h := Heq.out
        rw [List.drop_eq_nil_of_le (by simp; omega), takeR] at h
        refine ⟨?_, hb⟩
        rw [h]
        have h2 : (b.data.toList.drop m).isEmpty = false := by
          rw [List.isEmpty_eq_false_iff]
          intro h3
          rw [List.drop_eq_nil_iff] at h3
          simp at h3
          have := Hmb.out
          omega
        simp [h2]

/-- Elements of pre behind place k moved on by one, a free place at k. -/
def gap (pre : List UInt8) (g : UInt8) (k : Nat) : List UInt8 := pre.take k ++ g :: pre.drop k
theorem gap_length (pre : List UInt8) (g : UInt8) (k : Nat) (h : k ≤ pre.length) : (gap pre g k).length = pre.length + 1 := by simp [gap]; omega
theorem gap_last (pre : List UInt8) (g : UInt8) : gap pre g pre.length = pre ++ [g] := by simp [gap]
theorem gap_before (pre : List UInt8) (g : UInt8) (k j : Nat) (hj : j < k) (_hk : k ≤ pre.length) : (gap pre g k)[j]? = pre[j]? := by
  unfold gap; rw [List.getElem?_append_left (by simp; omega), List.getElem?_take, if_pos hj]
theorem gap_set (pre : List UInt8) (g x : UInt8) (k : Nat) (hk : k ≤ pre.length) : (gap pre g k).set k x = gap pre x k := by
  unfold gap
  rw [List.set_append_right _ _ (by simp; omega)]
  simp [show k - min k pre.length = 0 by omega]
theorem gap_move (pre : List UInt8) (k : Nat) (h0 : 0 < k) (hk : k ≤ pre.length) : gap pre (pre[k-1]'(by omega)) k = gap pre (pre[k-1]'(by omega)) (k - 1) := by
  obtain ⟨j, rfl⟩ : ∃ j, k = j + 1 := ⟨k - 1, by omega⟩
  simp only [Nat.add_sub_cancel]
  unfold gap
  rw [List.take_succ_eq_append_getElem (by omega), List.append_assoc, List.singleton_append]
  congr 2
  rw [List.drop_eq_getElem_cons (show j < pre.length by omega)]
theorem gap_perm (pre : List UInt8) (x : UInt8) (k : Nat) : (gap pre x k).Perm (pre ++ [x]) := by
  unfold gap
  refine List.perm_middle.trans ?_
  rw [List.take_append_drop]
  exact (List.perm_append_comm (l₁ := [x]) (l₂ := pre))
theorem gap_rises (pre : List UInt8) (x : UInt8) (k : Nat) (h : Rises pre) (hk : k ≤ pre.length) (h1 : ∀ h0 : 0 < k, (pre[k-1]'(by omega)).toNat ≤ x.toNat) (h2 : ∀ y ∈ pre.drop k, x.toNat ≤ y.toNat) : Rises (gap pre x k) := by
  have hd : Rises (pre.take k ++ pre.drop k) := by rw [List.take_append_drop]; exact h
  have hd' := List.pairwise_append.1 hd
  refine List.pairwise_append.2 ⟨hd'.1, List.pairwise_cons.2 ⟨h2, hd'.2.1⟩, ?_⟩
  intro a ha b hb
  rcases List.mem_cons.1 hb with rfl | hb
  · have h0 : 0 < k := by
      rcases Nat.eq_zero_or_pos k with rfl | h
      · simp at ha
      · exact h
    refine Nat.le_trans ?_ (h1 h0)
    obtain ⟨j, hj, rfl⟩ := List.getElem_of_mem ha
    simp at hj
    rw [List.getElem_take]
    by_cases he : j = k - 1
    · subst he; exact Nat.le_refl _
    · exact List.pairwise_iff_getElem.1 h j (k - 1) (by omega) (by omega) (by omega)
  · exact hd'.2.2 a ha b hb

theorem OwnB.at {w : World} {B g n cap : Nat} {l : List UInt8} (h : OwnB w B (.slice (some ⟨g, 0, none⟩) n cap) l) (j : Nat) (x : UInt8) (hx : l[j]? = some x) : w.cell? ⟨g, j, none⟩ = some (.int .u8 x.toNat) := by
  have h1 := World.ownsRow.cells h (g := g) rfl j (.int .u8 x.toNat) (by simp [Lib.byteCells, hx])
  have : (⟨g, 0, none⟩ : Addr).add j = ⟨g, j, none⟩ := by unfold Addr.add; split <;> simp_all
  rwa [this] at h1
theorem OwnB.free {w : World} {B g n cap : Nat} {l : List UInt8} (h : OwnB w B (.slice (some ⟨g, 0, none⟩) n cap) l) (j : Nat) : w.frozen? ⟨g, j, none⟩ = false := by
  rcases h.2 with ⟨h', _⟩ | ⟨g', cap', cur, h', _, hg, _⟩
  · simp at h'
  · simp only [Value.slice.injEq, Option.some.injEq, Addr.mk.injEq, and_true] at h'
    obtain ⟨rfl, rfl, rfl⟩ := h'
    exact frozen_of_row w g j cur _ hg
theorem OwnB.ge {w : World} {B g n cap : Nat} {l : List UInt8} (h : OwnB w B (.slice (some ⟨g, 0, none⟩) n cap) l) : B ≤ g := (World.ownsRow.lt h g rfl).1
theorem OwnB.set {w : World} {B g cap : Nat} {l : List UInt8} (h : OwnB w B (.slice (some ⟨g, 0, none⟩) l.length cap) l) (j : Nat) (x : UInt8) : OwnB (w.setCell ⟨g, j, none⟩ (.int .u8 x.toNat)) B (.slice (some ⟨g, 0, none⟩) l.length cap) (l.set j x) := by
  have := (World.ownsRow.stored h j (.int .u8 x.toNat)).1
  unfold OwnB
  rw [List.length_set]
  have e : Lib.byteCells (l.set j x) = (Lib.byteCells l).set j (.int .u8 x.toNat) := by simp [Lib.byteCells, List.map_set]
  rw [e]
  exact this

set_option maxHeartbeats 2000000 in
theorem l03Sort_any (s : ByteArray) (w : World) (hs : s.size ≤ 1048576) (ht : tileAll s.data.toList = true) :
    Calls Try.prog 53 #[.string s] w fun e w' => e = .returned (.string ⟨(pileOf (cntOf s.data.toList)).toArray⟩) ∧ Below w.heap.size w w' := by
  have Ht := Lib.hid ht; clear ht
  go_enter Try.func53, Try.ntmps53
  go_wp2
  go_loopw [3, 4, 5] (fun v i _ wr => ∃ (out : List UInt8), out.length ≤ s.size ∧ i = .int .i64 out.length ∧ OwnB wr w.heap.size v out ∧ Rises out ∧ out.Perm (s.data.toList.take out.length) ∧ Below w.heap.size w wr) (fun _ i _ _ => s.size - (intOf i).toNat)
  case atStart => exact ⟨[], Nat.zero_le _, rfl, OwnB.made w _ (Nat.le_refl _), List.Pairwise.nil, by simp, (Below.refl _ _).alloc (Nat.le_refl _) _⟩
  case round =>
    obtain ⟨out, hk, rfl, hown, hri, hpe, hb⟩ := hrel
    have Hri := Lib.hid hri; clear hri
    have Hpe := Lib.hid hpe; clear hpe
    by_cases hlt : out.length < s.size
    · obtain ⟨ao, cap0, rfl, hx1, hx2⟩ := hown.shape
      clear hx1 hx2
      have hbs' := hb.size
      have hd : decide ((out.length : Int) < (s.size : Int)) = true := by simp; omega
      go_wp2_with (at_builtin; refine app_byte rfl _ _ rfl w.heap.size _ out rfl hown s[out.length] rfl (by omega) hbs' ?_; intro g cap w1 hown1 hbel1 _)
      have hb1 := hbel1 _ hb
      clear hbel1 hown hb
      have hg := hown1.ge
      obtain ⟨wo, rfl⟩ : ∃ wo : World, wo = wr := ⟨_, rfl⟩
      go_loopw [5] (fun k wr => ∃ (m : Nat) (x : UInt8), m ≤ out.length ∧ k = .int .i64 m ∧ OwnB wr w.heap.size (.slice (some ⟨g, 0, none⟩) (out.length + 1) cap) (gap out x m) ∧ (∀ y ∈ out.drop m, s[out.length].toNat ≤ y.toNat) ∧ Below w.heap.size w wr) (fun k _ => (intOf k).toNat)
      case atStart => exact ⟨out.length, s[out.length], Nat.le_refl _, rfl, by rw [gap_last]; exact hown1, by simp, hb1⟩
      case round =>
        obtain ⟨m, x, hm, rfl, ho, hgt, hb2⟩ := hrel
        have Hgt := Lib.hid hgt; clear hgt
        have hlen := gap_length out x m hm
        by_cases h0 : 0 < m
        · have hcell := ho.at (m - 1) (out[m-1]) (by rw [gap_before _ _ _ _ (by omega) hm, List.getElem?_eq_getElem])
          by_cases hgt : s[out.length].toNat < out[m-1].toNat
          · have hfr := ho.free m
            have hcm : ∃ v, wr.cell? ⟨g, m, none⟩ = some v := ⟨_, ho.at m _ (List.getElem?_eq_getElem (by omega))⟩
            obtain ⟨vm, hcm⟩ := hcm
            have hst := ho
            rw [← hlen] at hst
            have Hst := Lib.hid hst; clear hst ho
            have hk1 : (0 : Int) < (m : Int) := by omega
            have hk2 : (1 : Int) ≤ (m : Int) := by omega
            have hk3 : (m : Int) - 1 < (out.length : Int) + 1 := by omega
            have hdg : decide ((s[out.length].toNat : Int) < (out[m-1].toNat : Int)) = true := by simp; omega
            have hwp : IntKind.i64.wrap ((m : Int) - 1) = (m : Int) - 1 := IntWalk.i64_in _ (by omega)
            go_wp2
            go_quiet (fail)
            clear hwp
            go_wp2
            go_roundw
            case rel =>
              have h1 := Hst.out.set m (out[m-1])
              rw [gap_set _ _ _ _ hm, gap_move _ _ h0 hm, hlen] at h1
              refine ⟨m - 1, out[m-1], by omega, by rw [show ((m - 1 : Nat) : Int) = (m : Int) - 1 by omega], h1.below (below_drewN (Below.refl _ _) _), ?_, below_drewN (hb2.setCell (p := ⟨g, m, none⟩) hg _) _⟩
              intro y hy
              rw [List.drop_eq_getElem_cons (show m - 1 < out.length by omega), show m - 1 + 1 = m by omega] at hy
              rcases List.mem_cons.1 hy with rfl | hy
              · omega
              · exact Hgt.out y hy
            case measure => simp [intOf]; omega
          · have hfr := ho.free m
            have hcm : ∃ v, wr.cell? ⟨g, m, none⟩ = some v := ⟨_, ho.at m _ (List.getElem?_eq_getElem (by omega))⟩
            obtain ⟨vm, hcm⟩ := hcm
            have hst := ho
            rw [← hlen] at hst
            have Hst := Lib.hid hst; clear hst ho
            have hk1 : (0 : Int) < (m : Int) := by omega
            have hk2 : (1 : Int) ≤ (m : Int) := by omega
            have hk3 : (m : Int) - 1 < (out.length : Int) + 1 := by omega
            have hdg : decide ((s[out.length].toNat : Int) < (out[m-1].toNat : Int)) = false := by simp; omega
            have hwp : IntKind.i64.wrap ((m : Int) - 1) = (m : Int) - 1 := IntWalk.i64_in _ (by omega)
            go_wp2
            go_quiet (fail)
            clear hwp
            go_wp2
            go_roundw
            case rel =>
              have h1 := Hst.out.set m s[out.length]
              rw [gap_set _ _ _ _ hm, hlen] at h1
              refine ⟨gap out s[out.length] m, by rw [gap_length _ _ _ hm]; omega, by rw [gap_length _ _ _ hm]; go_num, h1.below (below_drewN (Below.refl _ _) _), gap_rises _ _ _ Hri.out hm ?_ Hgt.out, ?_, below_drewN (hb2.setCell (p := ⟨g, m, none⟩) hg _) _⟩
              · exact fun _ => by omega
              · rw [gap_length _ _ _ hm, take_snoc s out.length hlt]
                exact (gap_perm _ _ _).trans (List.Perm.append_right _ Hpe.out)
            case measure => simp [intOf]; omega
        · have hfr := ho.free m
          have hcm : ∃ v, wr.cell? ⟨g, m, none⟩ = some v := ⟨_, ho.at m _ (List.getElem?_eq_getElem (by omega))⟩
          obtain ⟨vm, hcm⟩ := hcm
          have hst := ho
          rw [← hlen] at hst
          have Hst := Lib.hid hst; clear hst ho
          have hk1 : decide ((0 : Int) < (m : Int)) = false := by simp; omega
          go_wp2
          go_quiet (fail)
          go_wp2
          go_roundw
          case rel =>
            have h1 := Hst.out.set m s[out.length]
            rw [gap_set _ _ _ _ hm, hlen] at h1
            refine ⟨gap out s[out.length] m, by rw [gap_length _ _ _ hm]; omega, by rw [gap_length _ _ _ hm]; go_num, h1.below (below_drewN (Below.refl _ _) _), gap_rises _ _ _ Hri.out hm ?_ Hgt.out, ?_, below_drewN (hb2.setCell (p := ⟨g, m, none⟩) hg _) _⟩
            · exact fun h => absurd h h0
            · rw [gap_length _ _ _ hm, take_snoc s out.length hlt]
              exact (gap_perm _ _ _).trans (List.Perm.append_right _ Hpe.out)
          case measure => simp [intOf]; omega
    · have hcv := hown.conv
      go_wp2
      go_ret
      have h := Hpe.out
      rw [List.take_of_length_le (by simp; omega)] at h
      exact ⟨ret_str (by rw [pile_unique Hri.out h Ht.out]), hb⟩
end Go.Proofs.Ythpjinfkagllfaa
