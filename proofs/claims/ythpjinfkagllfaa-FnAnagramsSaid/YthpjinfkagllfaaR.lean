/- Contracts of the functions on piles: SortTiles, AddTiles, TakeTiles, ContainsTiles, ValidRack, in the program and in the reference. Conditions: strings of at most 2^20 bytes. -/
import Derived.Test.YthpjinfkagllfaaC
import Derived.Test.YthpjinfkagllfaaT
namespace Go.Proofs.Ythpjinfkagllfaa
open Go.RowKit

theorem pile_parts {s : ByteArray} (h : isPile s = true) : tileAll s.data.toList = true ∧ Rises s.data.toList ∧ s.size ≤ 120 := by
  simp only [isPile, Bool.and_eq_true, decide_eq_true_eq] at h
  exact ⟨h.1.1, (sortedB_iff _).1 h.1.2, h.2⟩

/-- What TakeTiles comes to. -/
def takeV (a b : ByteArray) : ByteArray × Int :=
  if isPile a && isPile b then (if (takeR a.data.toList b.data.toList).2.isEmpty then (⟨(takeR a.data.toList b.data.toList).1.toArray⟩, 0) else (⟨#[]⟩, 3)) else (⟨#[]⟩, 1)
def containsV (a b : ByteArray) : Bool := isPile a && isPile b && (takeR a.data.toList b.data.toList).2.isEmpty
theorem takeV_code (a b : ByteArray) : ((takeV a b).2 == 0) = containsV a b := by
  unfold takeV containsV
  cases isPile a <;> cases isPile b <;> cases (takeR a.data.toList b.data.toList).2.isEmpty <;> simp
theorem takeV_no {a b : ByteArray} (h : isPile a = false ∨ isPile b = false) : takeV a b = (⟨#[]⟩, 1) := by
  unfold takeV; rcases h with h | h <;> simp [h]
theorem takeV_yes {a b : ByteArray} (ha : isPile a = true) (hb : isPile b = true) (h : (takeR a.data.toList b.data.toList).2.isEmpty = true) : takeV a b = (⟨(takeR a.data.toList b.data.toList).1.toArray⟩, 0) := by
  unfold takeV; simp [ha, hb, h]
theorem takeV_not {a b : ByteArray} (ha : isPile a = true) (hb : isPile b = true) (h : (takeR a.data.toList b.data.toList).2.isEmpty = false) : takeV a b = (⟨#[]⟩, 3) := by
  unfold takeV; simp [ha, hb, h]
theorem ret_pair {a b : ByteArray} {n m : Int} {r : ByteArray × Int} (h : r = (a, n)) (hb : b = a) (hm : m = n) : Ending.returned (.tuple #[.string b, .int .i64 m]) = .returned (.tuple #[.string r.1, .int .i64 r.2]) := by
  subst h; subst hb; subst hm; rfl

theorem pileOf_zero : pileOf (fun _ => 0) = [] := by simp [pileOf, pileTo]
theorem cntOf_range (s : ByteArray) (h : s.size ≤ 1048576) (j : Nat) : 0 ≤ cntOf s.data.toList j ∧ cntOf s.data.toList j ≤ 2097152 := by
  have := cntOf_le s.data.toList j; simp at this; omega
set_option maxHeartbeats 1000000 in
theorem without_any (a b : ByteArray) (w : World) (ha : isPile a = true) (hb : isPile b = true) :
    Calls Try.prog 50 #[.string a, .string b] w fun e w' => e = .returned (.tuple #[.string (takeV a b).1, .bool (takeR a.data.toList b.data.toList).2.isEmpty]) ∧ Below w.heap.size w w' := by
  obtain ⟨ha1, ha2, ha3⟩ := pile_parts ha
  obtain ⟨hb1, hb2, hb3⟩ := pile_parts hb
  have HA := Lib.hid ha; have HB := Lib.hid hb
  have HA1 := Lib.hid ha1; have HB1 := Lib.hid hb1; have HA2 := Lib.hid ha2; have HB2 := Lib.hid hb2
  clear ha1 hb1 ha2 hb2 ha hb
  go_enter Try.func50, Try.ntmps50
  go_wp2_with fail
  refine (countsOf_any _ _ (by omega) HA1.out).mono ?_
  rintro e w1 ⟨rfl, hw1⟩
  go_wp2_with fail
  refine (countsOf_any _ _ (by omega) HB1.out).mono ?_
  rintro e w2 ⟨rfl, hw2⟩
  have hw2' := hw1.trans (hw2.mono hw1.size)
  go_wp2_with fail
  refine (less_any _ _ _ (cntOf_range a (by omega)) (cntOf_range b (by omega))).mono ?_
  rintro e w3 ⟨h3, hw3⟩
  have hw3' := hw2'.trans (hw3.mono hw2'.size)
  rcases h3 with ⟨hge, rfl⟩ | ⟨hge, rfl⟩
  · obtain ⟨ht1, ht2⟩ := takeR_ok HA2.out HB2.out HA1.out HB1.out hge
    have Ht1 := Lib.hid ht1; have Ht2 := Lib.hid ht2; have Hge := Lib.hid hge
    clear ht1 ht2 hge
    go_wp2_with (first
        | (refine wpList_store_row rfl 53 _ _ rfl w3.heap.size (cs (subC (cntOf a.data.toList) (cntOf b.data.toList))) rfl rfl _ _ (heap_alloc_new w3 _) (by rw [cs_size]; exact infoCounts) (by rw [cs_size]; rfl) (cs_one _) ?_)
        | (refine wpList_load_row rfl 53 _ rfl w3.heap.size rfl _ _ _ _ (setRow_heap _ _ _ _ _ _ (heap_alloc_new w3 _)) Try.underlying53 rfl (by rw [cs_size]; exact infoCounts) ?_))
    refine (pile_any _ _ (fun j _ => ?_)).mono ?_
    · have h1 := (cntOf_range a (by omega) j).2; have h2 := (cntOf_range b (by omega) j).1; unfold subC; omega
    rintro e w4 ⟨rfl, hw4⟩
    have hB : Below w.heap.size w w4 := (below_setRow (hw3'.alloc hw3'.size _) hw3'.size _).trans (hw4.mono (by have := hw3'.size; simp [World.setRow]; omega))
    go_wp2
    go_ret2
    refine ⟨?_, hB⟩
    rw [takeV_yes HA.out HB.out (by rw [Ht1.out]; rfl), Ht1.out, Ht2.out]; rfl
  · have hno := takeR_no HA1.out HB1.out hge
    have Hno := Lib.hid hno
    clear hno hge
    go_wp2_with (first
        | (refine wpList_store_row rfl 53 _ _ rfl w3.heap.size (cs fun _ => 0) rfl rfl _ _ (heap_alloc_new w3 _) (by rw [cs_size]; exact infoCounts) (by rw [cs_size]; rfl) (cs_one _) ?_)
        | (refine wpList_load_row rfl 53 _ rfl w3.heap.size rfl _ _ _ _ (setRow_heap _ _ _ _ _ _ (heap_alloc_new w3 _)) Try.underlying53 rfl (by rw [cs_size]; exact infoCounts) ?_))
    refine (pile_any _ _ (fun j _ => by omega)).mono ?_
    rintro e w4 ⟨rfl, hw4⟩
    have hB : Below w.heap.size w w4 := (below_setRow (hw3'.alloc hw3'.size _) hw3'.size _).trans (hw4.mono (by have := hw3'.size; simp [World.setRow]; omega))
    go_wp2
    go_ret2
    refine ⟨?_, hB⟩
    have h : (takeR a.data.toList b.data.toList).2.isEmpty = false := by rw [List.isEmpty_eq_false_iff]; exact Hno.out
    rw [takeV_not HA.out HB.out h, h, pileOf_zero]; rfl

set_option maxHeartbeats 1000000 in
theorem implTakeTiles_any (a b : ByteArray) (w : World) (has : a.size ≤ 1048576) (hbs : b.size ≤ 1048576) :
    Calls Try.prog 17 #[.string a, .string b] w fun e w' => e = .returned (.tuple #[.string (takeV a b).1, .int .i64 (takeV a b).2]) ∧ Below w.heap.size w w' := by
  have hma : a.size ≤ maxLen := by unfold maxLen; omega
  have hmb : b.size ≤ maxLen := by unfold maxLen; omega
  cases hA : isPile a
  · go_enter Try.func17, Try.ntmps17
    go_wp2_with fail
    refine (ivp_any _ _ hma).mono ?_
    rintro e w1 ⟨rfl, hb1⟩
    go_wp2
    go_ret2
    exact ⟨ret_pair (takeV_no (.inl hA)) rfl rfl, hb1⟩
  · cases hB : isPile b
    · go_enter Try.func17, Try.ntmps17
      go_wp2_with fail
      refine (ivp_any _ _ hma).mono ?_
      rintro e w1 ⟨rfl, hb1⟩
      go_wp2_with fail
      refine (ivp_any _ _ hmb).mono ?_
      rintro e w2 ⟨rfl, hb2⟩
      go_wp2
      go_ret2
      exact ⟨ret_pair (takeV_no (.inr hB)) rfl rfl, hb1.trans (hb2.mono hb1.size)⟩
    · have HA := Lib.hid hA
      have HB := Lib.hid hB
      cases hT : (takeR a.data.toList b.data.toList).2.isEmpty
      all_goals
        go_enter Try.func17, Try.ntmps17
        go_wp2_with fail
        refine (ivp_any _ _ hma).mono ?_
        rintro e w1 ⟨rfl, hb1⟩
        go_wp2_with fail
        refine (ivp_any _ _ hmb).mono ?_
        rintro e w2 ⟨rfl, hb2⟩
        have hb2' := hb1.trans (hb2.mono hb1.size)
        go_wp2_with fail
        refine (without_any _ _ _ HA.out HB.out).mono ?_
        rintro e w3 ⟨rfl, hb3⟩
        go_wp2
        go_ret2
        first | exact ⟨ret_pair (takeV_not HA.out HB.out hT) rfl rfl, hb2'.trans (hb3.mono hb2'.size)⟩ | exact ⟨by rw [takeV_yes HA.out HB.out hT]; rfl, hb2'.trans (hb3.mono hb2'.size)⟩
theorem specContainsTiles_any (a b : ByteArray) (w : World) (has : a.size ≤ 1048576) (hbs : b.size ≤ 1048576) :
    Calls Try.prog 30 #[.string a, .string b] w fun e w' => e = .returned (.bool (containsV a b)) ∧ Below w.heap.size w w' := by
  have hma : a.size ≤ maxLen := by unfold maxLen; omega
  have hmb : b.size ≤ maxLen := by unfold maxLen; omega
  cases hA : isPile a
  · go_enter Try.func30, Try.ntmps30
    go_wp2_with fail
    refine (l03Take_any _ _ _ has hbs).mono ?_
    rintro e w1 ⟨rfl, hb1⟩
    go_wp2_with fail
    refine (svp_any _ _ hma).mono ?_
    rintro e w2 ⟨rfl, hb2⟩
    go_wp2
    go_ret
    exact ⟨ret_bool (by simp [containsV, hA]), hb1.trans (hb2.mono hb1.size)⟩
  · go_enter Try.func30, Try.ntmps30
    go_wp2_with fail
    refine (l03Take_any _ _ _ has hbs).mono ?_
    rintro e w1 ⟨rfl, hb1⟩
    go_wp2_with fail
    refine (svp_any _ _ hma).mono ?_
    rintro e w2 ⟨rfl, hb2⟩
    have hb2' := hb1.trans (hb2.mono hb1.size)
    go_wp2_with fail
    refine (svp_any _ _ hmb).mono ?_
    rintro e w3 ⟨rfl, hb3⟩
    cases hB : isPile b
    all_goals
      go_wp2
      go_ret
      exact ⟨ret_bool (by simp [containsV, hA, hB]), hb2'.trans (hb3.mono hb2'.size)⟩
theorem implValidRack_any (s : ByteArray) (w : World) (hs : s.size ≤ maxLen) :
    Calls Try.prog 43 #[.string s] w fun e w' => e = .returned (.bool (isPile s && decide (s.size ≤ 7))) ∧ Below w.heap.size w w' := by
  have Hs := Lib.hid hs
  unfold maxLen at hs
  by_cases h7 : s.size ≤ 7
  · go_enter Try.func43, Try.ntmps43
    go_wp2_with fail
    refine (ivp_any _ _ Hs.out).mono ?_
    rintro e w1 ⟨rfl, hb1⟩
    go_wp2
    go_ret
    exact ⟨ret_bool (by simp [h7]), hb1⟩
  · go_enter Try.func43, Try.ntmps43
    go_wp2
    go_ret
    exact ⟨ret_bool (by simp), Below.refl _ _⟩
theorem l03Rack_any (s : ByteArray) (w : World) (hs : s.size ≤ maxLen) :
    Calls Try.prog 41 #[.string s] w fun e w' => e = .returned (.bool (isPile s && decide (s.size ≤ 7))) ∧ Below w.heap.size w w' := by
  have Hs := Lib.hid hs
  unfold maxLen at hs
  cases hp : isPile s
  · go_enter Try.func41, Try.ntmps41
    go_wp2_with fail
    refine (svp_any _ _ Hs.out).mono ?_
    rintro e w1 ⟨rfl, hb1⟩
    go_wp2
    go_ret
    exact ⟨ret_bool (by simp), hb1⟩
  · go_enter Try.func41, Try.ntmps41
    go_wp2_with fail
    refine (svp_any _ _ Hs.out).mono ?_
    rintro e w1 ⟨rfl, hb1⟩
    go_wp2
    go_ret
    exact ⟨ret_bool (by rw [Bool.true_and, decide_eq_decide]; omega), hb1⟩
/-- What SortTiles comes to. -/
def sortV (s : ByteArray) : ByteArray × Int :=
  if tileAll s.data.toList then (if s.size ≤ 120 then (⟨(pileOf (cntOf s.data.toList)).toArray⟩, 0) else (⟨#[]⟩, 5)) else (⟨#[]⟩, 7)
/-- What AddTiles comes to. -/
def addV (a b : ByteArray) : ByteArray × Int :=
  if isPile a && isPile b then (if a.size + b.size ≤ 120 then (⟨(pileOf (cntOf (a.data.toList ++ b.data.toList))).toArray⟩, 0) else (⟨#[]⟩, 5)) else (⟨#[]⟩, 1)
theorem ba_data_append (a b : ByteArray) : (a ++ b).data.toList = a.data.toList ++ b.data.toList := by simp
end Go.Proofs.Ythpjinfkagllfaa
