/- SplitWords of both sides. Conditions: a text of at most 2^20 bytes; MaxLen's cell. -/
import Derived.Test.YtinmmbnlflmobaaGreatDoorS
import Derived.Test.YtinmmbnlflmobaaGreatDoorAt
namespace Go.Proofs.YtinmmbnlflmobaaGreatDoor
open Go.RowKit
theorem filter_takeS {α : Type} (p : α → Bool) (l : List α) (j : Nat) (h : j < l.length) : (l.take (j + 1)).filter p = (l.take j).filter p ++ (if p l[j] then [l[j]] else []) := by
  rw [List.take_succ_eq_append_getElem h, List.filter_append]
  cases hp : p l[j] <;> simp [hp]
/-- Is it not empty? -/
def notE (s : ByteArray) : Bool := !decide (s.size = 0)
theorem notE_no {s : ByteArray} (h : s.size = 0) : notE s = false := by simp [notE, h]
theorem notE_yes {s : ByteArray} (h : s.size ≠ 0) : notE s = true := by simp [notE, h]
theorem isEmpty_f {s : ByteArray} (h : s.size ≠ 0) : s.toList.isEmpty = false := by
  have : s.toList.length = s.size := by rw [ByteArray.toList_eq]; simp
  cases hl : s.toList with
  | nil => rw [hl] at this; simp at this; omega
  | cons a l => rfl
theorem isEmpty_t {s : ByteArray} (h : s.size = 0) : s.toList.isEmpty = true := by
  have : s.toList.length = s.size := by rw [ByteArray.toList_eq]; simp
  cases hl : s.toList with
  | nil => rfl
  | cons a l => rw [hl] at this; simp at this; omega
def spW (s : ByteArray) : List ByteArray := (splitW 32 s).filter notE
theorem spW_len (s : ByteArray) (h : s.size ≤ 1048576) : (spW s).length ≤ 1048577 := by
  unfold spW
  have h1 := List.length_filter_le notE (splitW 32 s)
  have h2 := splitW_len 32 s
  omega
attribute [local irreducible] Calls
end Go.Proofs.YtinmmbnlflmobaaGreatDoor
