/- Contracts of the functions on piles: SortTiles, AddTiles, TakeTiles, ContainsTiles, ValidRack, in the program and in the reference. Conditions: strings of at most 2^20 bytes. -/
import Derived.Test.YtlompohfibcjfaaC
import Derived.Test.YtlompohfibcjfaaT
namespace Go.Proofs.Ytlompohfibcjfaa
open Go.RowKit

theorem pile_parts {s : ByteArray} (h : isPile s = true) : tileAll s.data.toList = true ∧ Rises s.data.toList ∧ s.size ≤ 120 := by
  simp only [isPile, Bool.and_eq_true, decide_eq_true_eq] at h
  exact ⟨h.1.1, (sortedB_iff _).1 h.1.2, h.2⟩

/-- What TakeTiles comes to. -/
def takeV (a b : ByteArray) : ByteArray × Int :=
  if isPile a && isPile b then (if (takeR a.data.toList b.data.toList).2.isEmpty then (⟨(takeR a.data.toList b.data.toList).1.toArray⟩, 0) else (⟨#[]⟩, 3)) else (⟨#[]⟩, 1)
def containsV (a b : ByteArray) : Bool := isPile a && isPile b && (takeR a.data.toList b.data.toList).2.isEmpty
theorem takeV_code (a b : ByteArray) : ((takeV a b).2 == 0) = containsV a b := by
  unfold takeV containsV
  cases isPile a <;> cases isPile b <;> cases (takeR a.data.toList b.data.toList).2.isEmpty <;> simp
theorem takeV_no {a b : ByteArray} (h : isPile a = false ∨ isPile b = false) : takeV a b = (⟨#[]⟩, 1) := by
  unfold takeV; rcases h with h | h <;> simp [h]
theorem takeV_yes {a b : ByteArray} (ha : isPile a = true) (hb : isPile b = true) (h : (takeR a.data.toList b.data.toList).2.isEmpty = true) : takeV a b = (⟨(takeR a.data.toList b.data.toList).1.toArray⟩, 0) := by
  unfold takeV; simp [ha, hb, h]
theorem takeV_not {a b : ByteArray} (ha : isPile a = true) (hb : isPile b = true) (h : (takeR a.data.toList b.data.toList).2.isEmpty = false) : takeV a b = (⟨#[]⟩, 3) := by
  unfold takeV; simp [ha, hb, h]
theorem ret_pair {a b : ByteArray} {n m : Int} {r : ByteArray × Int} (h : r = (a, n)) (hb : b = a) (hm : m = n) : Ending.returned (.tuple #[.string b, .int .i64 m]) = .returned (.tuple #[.string r.1, .int .i64 r.2]) := by
  subst h; subst hb; subst hm; rfl


theorem specContainsTiles_any (a b : ByteArray) (w : World) (has : a.size ≤ 1048576) (hbs : b.size ≤ 1048576) :
    Calls Try.prog 42 #[.string a, .string b] w fun e w' => e = .returned (.bool (containsV a b)) ∧ Below w.heap.size w w' := by
  have hma : a.size ≤ maxLen := by unfold maxLen; omega
  have hmb : b.size ≤ maxLen := by unfold maxLen; omega
  cases hA : isPile a
  · go_enter Try.func42, Try.ntmps42
    go_wp2_with fail
    refine (l03Take_any _ _ _ has hbs).mono ?_
    rintro e w1 ⟨rfl, hb1⟩
    go_wp2_with fail
    refine (svp_any _ _ hma).mono ?_
    rintro e w2 ⟨rfl, hb2⟩
    go_wp2
    go_ret
    exact ⟨ret_bool (by simp [containsV, hA]), hb1.trans (hb2.mono hb1.size)⟩
  · go_enter Try.func42, Try.ntmps42
    go_wp2_with fail
    refine (l03Take_any _ _ _ has hbs).mono ?_
    rintro e w1 ⟨rfl, hb1⟩
    go_wp2_with fail
    refine (svp_any _ _ hma).mono ?_
    rintro e w2 ⟨rfl, hb2⟩
    have hb2' := hb1.trans (hb2.mono hb1.size)
    go_wp2_with fail
    refine (svp_any _ _ hmb).mono ?_
    rintro e w3 ⟨rfl, hb3⟩
    cases hB : isPile b
    all_goals
      go_wp2
      go_ret
      exact ⟨ret_bool (by simp [containsV, hA, hB]), hb2'.trans (hb3.mono hb2'.size)⟩
/-- What SortTiles comes to. -/
def sortV (s : ByteArray) : ByteArray × Int :=
  if tileAll s.data.toList then (if s.size ≤ 120 then (⟨(pileOf (cntOf s.data.toList)).toArray⟩, 0) else (⟨#[]⟩, 5)) else (⟨#[]⟩, 7)
/-- What AddTiles comes to. -/
def addV (a b : ByteArray) : ByteArray × Int :=
  if isPile a && isPile b then (if a.size + b.size ≤ 120 then (⟨(pileOf (cntOf (a.data.toList ++ b.data.toList))).toArray⟩, 0) else (⟨#[]⟩, 5)) else (⟨#[]⟩, 1)
theorem ba_data_append (a b : ByteArray) : (a ++ b).data.toList = a.data.toList ++ b.data.toList := by simp
end Go.Proofs.Ytlompohfibcjfaa
