/- TilesOfWord of the reference. Condition: a string of at most 2^20 bytes. -/
import Derived.Test.YthpjinfkagllfaaC
import Derived.Test.YthpjinfkagllfaaT
import Derived.Test.YthpjinfkagllfaaRb
namespace Go.Proofs.Ythpjinfkagllfaa
open Go.RowKit
/-- The bytes of a placed word. -/
def plcI (c : Int) : Bool := smallI c || capI c
def plcAll (l : List UInt8) : Bool := l.all fun c => plcI c.toNat
def isPlc (s : ByteArray) : Bool := plcAll s.data.toList && inI s.size 1 12
/-- The tile of a letter that is placed. -/
def tileOf (c : UInt8) : UInt8 := if capI c.toNat then 63 else c
def plcTiles (l : List UInt8) : List UInt8 := pileOf (cntOf (l.map tileOf))
def plcV (s : ByteArray) : ByteArray := if isPlc s then ⟨(plcTiles s.data.toList).toArray⟩ else ByteArray.empty

theorem tileOf_tile {c : UInt8} (h : plcI c.toNat = true) : tileI (tileOf c).toNat = true := by
  unfold tileOf
  split
  · rfl
  · rename_i hc
    have : smallI c.toNat = true := by simpa [plcI, hc] using h
    simp [tileI, this]
theorem tiles_all {l : List UInt8} (h : plcAll l = true) : tileAll (l.map tileOf) = true := by
  unfold tileAll plcAll at *
  rw [List.all_eq_true] at h ⊢
  intro x hx
  obtain ⟨c, hc, rfl⟩ := List.mem_map.1 hx
  exact tileOf_tile (h c hc)

def tilesTo (l : List UInt8) (k : Nat) : List UInt8 := (l.take k).map tileOf ++ l.drop k
theorem tilesTo_len (l : List UInt8) (k : Nat) : (tilesTo l k).length = l.length := by simp [tilesTo]; omega
theorem tilesTo_all (l : List UInt8) : tilesTo l l.length = l.map tileOf := by simp [tilesTo]
theorem tilesTo_zero (l : List UInt8) : tilesTo l 0 = l := by simp [tilesTo]
theorem tilesTo_at (l : List UInt8) (k : Nat) (h : k < l.length) : (tilesTo l k)[k]? = some l[k] := by
  unfold tilesTo
  rw [List.getElem?_append_right (by simp; omega)]
  simp [Nat.min_eq_left (Nat.le_of_lt h), h]
theorem tilesTo_succ (l : List UInt8) (k : Nat) (h : k < l.length) : tilesTo l (k + 1) = (tilesTo l k).set k (tileOf l[k]) := by
  unfold tilesTo
  have hl : ((l.take k).map tileOf).length = k := by simp; omega
  rw [List.set_append_right _ _ (by omega), hl, Nat.sub_self, List.drop_eq_getElem_cons h, List.set_cons_zero, List.take_succ_eq_append_getElem h, List.map_append, List.append_assoc]
  rfl
theorem tilesTo_same (l : List UInt8) (k : Nat) (h : k < l.length) (hc : capI l[k].toNat = false) : tilesTo l (k + 1) = tilesTo l k := by
  have e : tileOf l[k] = l[k] := by simp [tileOf, hc]
  rw [tilesTo_succ l k h, e]
  refine List.ext_getElem? fun i => ?_
  rw [List.getElem?_set]
  split
  · rename_i hki
    subst hki
    rw [tilesTo_len, if_pos h, tilesTo_at l k h]
  · rfl

theorem ba_list (s : ByteArray) (k : Nat) (h : k < s.size) : s.data.toList[k]? = some s[k] := Lib.data_getElem? s k h

set_option maxHeartbeats 2000000 in
theorem l03Tiles_any (s : ByteArray) (w : World) (hs : s.size ≤ 1048576) (ht : plcAll s.data.toList = true) :
    Calls Try.prog 65 #[.string s] w fun e w' => e = .returned (.string ⟨(plcTiles s.data.toList).toArray⟩) ∧ Below w.heap.size w w' := by
  have Ht := Lib.hid (tiles_all ht); clear ht
  have hcv := run_bytes_of_string (P := Try.prog) w 9 30 5 s Try.underlying9 Try.underlying30 Try.underlying5
  have hlen : s.data.toList.length = s.size := by simp
  go_enter Try.func65, Try.ntmps65
  go_wp2
  obtain ⟨W0, hW, hb0, hrow⟩ := RowB.fresh w s (grownCap w s.size 0 5)
  rw [← hW]
  clear hW hcv
  generalize grownCap w s.size 0 5 = cap
  go_loopw [4] (fun i wr => ∃ k : Nat, k ≤ s.size ∧ i = .int .i64 k ∧ RowB wr w.heap.size (tilesTo s.data.toList k) ∧ Below w.heap.size w wr) (fun i _ => s.size - (intOf i).toNat)
  case atStart => exact ⟨0, Nat.zero_le _, rfl, by rw [tilesTo_zero]; exact hrow, hb0⟩
  case round =>
    obtain ⟨k, hk, rfl, hr, hb⟩ := hrel
    by_cases hlt : k < s.size
    · have hl : k < s.data.toList.length := by omega
      have hx : s.data.toList[k] = s[k] := rfl
      have hc := hr.at k _ (tilesTo_at _ k hl)
      have hf := hr.free k (by rw [tilesTo_len]; exact hl)
      rw [hx] at hc
      have Hr := Lib.hid hr; clear hr
      cases hcap : capI s[k].toNat
      · go_wp2_with (go_at_call 90; refine (l03Capital_any _ _).mono ?_; rintro e w' ⟨rfl, rfl⟩)
        go_roundw
        case rel => exact ⟨k + 1, by omega, by go_num, by rw [tilesTo_same _ k hl hcap]; exact Hr.out, hb⟩
        case measure => simp [intOf]; omega
      · go_wp2_with (go_at_call 90; refine (l03Capital_any _ _).mono ?_; rintro e w' ⟨rfl, rfl⟩)
        go_roundw
        case rel =>
          have hset := Hr.out.set k (tileOf s[k])
          rw [← hx, ← tilesTo_succ _ k hl, hx, show tileOf s[k] = 63 by simp [tileOf, hcap]] at hset
          exact ⟨k + 1, by omega, by go_num, hset, hb.setCell (p := ⟨w.heap.size, k, none⟩) (by simp) _⟩
        case measure => simp [intOf]; omega
    · obtain rfl : k = s.size := by omega
      have hr' : RowB wr w.heap.size (s.data.toList.map tileOf) := by rw [← tilesTo_all, hlen]; exact hr
      have hcv := hr'.conv (cap := cap)
      rw [List.length_map, hlen] at hcv
      clear hr hr'
      go_wp2_with (go_at_call 53; refine (l03Sort_any ⟨(s.data.toList.map tileOf).toArray⟩ _ (by show (List.map tileOf s.data.toList).toArray.size ≤ _; rw [List.size_toArray, List.length_map, hlen]; exact hs) Ht.out).mono ?_; rintro e w' ⟨rfl, hb'⟩)
      go_ret
      exact ⟨rfl, hb.trans (hb'.mono hb.size)⟩

theorem l03Placed_any (s : ByteArray) (w : World) (hs : s.size ≤ 1048576) :
    Calls Try.prog 64 #[.string s] w fun e w' => e = .returned (.bool (isPlc s)) ∧ w = w' := by
  go_enter Try.func64, Try.ntmps64
  go_wp2
  go_loop [3] (fun i => ∃ k : Nat, k ≤ s.size ∧ i = .int .i64 k ∧ plcAll (s.data.toList.take k) = true) (fun i => s.size - (intOf i).toNat)
  case atStart => exact ⟨0, Nat.zero_le _, rfl, rfl⟩
  case round =>
    obtain ⟨k, hk, rfl, hall⟩ := hrel
    have Hall := Lib.hid hall; clear hall
    by_cases hlt : k < s.size
    · cases hsm : smallI s[k].toNat <;> cases hcp : capI s[k].toNat
      · go_wp2_with (first
          | (go_at_call 69; refine (l01Small_any _ _).mono ?_; rintro e w' ⟨rfl, rfl⟩)
          | (go_at_call 90; refine (l03Capital_any _ _).mono ?_; rintro e w' ⟨rfl, rfl⟩))
        go_ret
        exact ⟨ret_bool (by rw [isPlc, plcAll, all_of_take _ s k hlt (by simp [plcI, hsm, hcp])]; rfl), rfl⟩
      all_goals
        have hpl : plcI s[k].toNat = true := by simp [plcI, hsm, hcp]
        have Hpl := Lib.hid hpl; clear hpl
        go_wp2_with (first
          | (go_at_call 69; refine (l01Small_any _ _).mono ?_; rintro e w' ⟨rfl, rfl⟩)
          | (go_at_call 90; refine (l03Capital_any _ _).mono ?_; rintro e w' ⟨rfl, rfl⟩))
        go_round
        case rel => exact ⟨k + 1, by omega, by go_num, by unfold plcAll; rw [all_take_succ _ s k hlt]; show (plcAll _ && plcI _) = true; rw [Hall.out, Hpl.out]; rfl⟩
        case measure => simp [intOf]; omega
    · obtain rfl : k = s.size := by omega
      go_wp2_with (go_at_call 70; refine (l00In_any _ _ _ _).mono ?_; rintro e w' ⟨rfl, rfl⟩)
      go_ret
      have h := Hall.out
      rw [take_all] at h
      exact ⟨ret_bool (by rw [isPlc, h]; rfl), rfl⟩

theorem plcV_eq (s : ByteArray) (h : isPlc s = true) : plcV s = ⟨(plcTiles s.data.toList).toArray⟩ := by rw [plcV, if_pos h]
theorem plcV_no (s : ByteArray) (h : isPlc s = false) : plcV s = ByteArray.empty := by rw [plcV, if_neg (by simp [h])]
theorem isPlc_all {s : ByteArray} (h : isPlc s = true) : plcAll s.data.toList = true := by simp [isPlc] at h; exact h.1

theorem specTilesOfWord_any (s : ByteArray) (w : World) (hs : s.size ≤ 1048576) :
    Calls Try.prog 27 #[.string s] w fun e w' => e = .returned (.string (plcV s)) ∧ Below w.heap.size w w' := by
  cases hp : isPlc s
  · go_enter Try.func27, Try.ntmps27
    go_wp2_with (go_at_call 64; refine (l03Placed_any s _ hs).mono ?_; rintro e w1 ⟨rfl, rfl⟩; rw [hp])
    go_ret
    exact ⟨ret_str (plcV_no s hp).symm, Below.refl _ _⟩
  · have Hal := Lib.hid (isPlc_all hp)
    go_enter Try.func27, Try.ntmps27
    go_wp2_with (first
      | (go_at_call 64; refine (l03Placed_any s _ hs).mono ?_; rintro e w1 ⟨rfl, rfl⟩; rw [hp])
      | (go_at_call 65; refine (l03Tiles_any s _ hs Hal.out).mono ?_; rintro e w1 ⟨rfl, hb⟩))
    go_ret
    exact ⟨ret_str (plcV_eq s hp).symm, hb⟩
end Go.Proofs.Ythpjinfkagllfaa
