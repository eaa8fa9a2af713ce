/- Contracts of the helpers of the laws on []string: eqStringS, markText, markStringS, heldStringS. No condition but the readings. -/
import Derived.Test.YtinmmbnlflmobaaGreatDoorB
import Derived.BigQuiet
import Derived.Deep.QuietTactic
import Derived.Deep.RegionHeld3
namespace Go.Proofs.YtinmmbnlflmobaaGreatDoor
open Go.RowKit

theorem bytes_beq (a b : ByteArray) : (a.toList == b.toList) = decide (a = b) := by
  rw [ByteArray.toList_eq, ByteArray.toList_eq, Bool.eq_iff_iff, beq_iff_eq, decide_eq_true_iff]
  constructor
  · intro h; cases a; cases b; simp at h; simp [h]
  · intro h; rw [h]
theorem bytes_ne_of {a b : ByteArray} (h : (a.toList == b.toList) = false) : a ≠ b := by
  rw [bytes_beq] at h; simpa using h
theorem bytes_eq_of {a b : ByteArray} (h : (a.toList == b.toList) = true) : a = b := by
  rw [bytes_beq] at h; simpa using h

theorem take_eq_succ {α : Type} {l1 l2 : List α} {k : Nat} (h : l1.take k = l2.take k) (h1 : k < l1.length) (h2 : k < l2.length) (h3 : l1[k] = l2[k]) : l1.take (k + 1) = l2.take (k + 1) := by
  rw [List.take_succ_eq_append_getElem h1, List.take_succ_eq_append_getElem h2, h, h3]

/-- The decimal digits of a number, as bytes; none for 0. -/
def mdig (n : Nat) : List UInt8 := if _h : n = 0 then [] else mdig (n / 10) ++ [UInt8.ofNat (48 + n % 10)]
termination_by n
decreasing_by omega
theorem mdig_zero : mdig 0 = [] := by unfold mdig; simp
theorem mdig_pos {n : Nat} (h : 0 < n) : mdig n = mdig (n / 10) ++ [UInt8.ofNat (48 + n % 10)] := by
  rw [mdig]; simp [Nat.ne_of_gt h]
theorem mdig_len (k : Nat) : ∀ n, n < 10 ^ k → (mdig n).length ≤ k := by
  induction k with
  | zero => intro n h; obtain rfl : n = 0 := by simp at h; exact h
            simp [mdig_zero]
  | succ k ih =>
    intro n h
    by_cases h0 : n = 0
    · subst h0; simp [mdig_zero]
    · rw [mdig_pos (by omega)]; have := ih (n / 10) (by rw [Nat.pow_succ] at h; omega); simp; omega
theorem mdig_le (n : Nat) (h : (n : Int) ≤ 9223372036854775807) : (mdig n).length ≤ 19 := mdig_len 19 n (by omega)

/-- 'string([]byte{c})' -/
@[go_sem] theorem conv_one (w : World) (n : Int) : (convert 22 9 (.slice (some ⟨w.heap.size, 0, none⟩) 1 1)).run Tryz.prog (w.alloc (.cells #[.int .u8 n] 5)) =
    .ok (.string ⟨#[UInt8.ofNat n.toNat]⟩) (w.alloc (.cells #[.int .u8 n] 5)) := by
  rw [run_convert_bytes_string _ _ _ 5 _ _ _ Tryz.underlying22 Tryz.underlying5 Tryz.underlying9]
  have hl := run_loadCells_list (P := Tryz.prog) (w.alloc (.cells #[.int .u8 n] 5)) ⟨w.heap.size, 0, none⟩ [.int .u8 n] (fun j v hj => by
    match j, hj with
    | 0, hj => simp at hj; subst hj; simp [Addr.add, World.cell?_alloc_mark])
  rw [run_bytesToString _ _ 1 1 [n] (by simpa using hl)]
  rfl

/-- The text of a mark. -/
def mtext (n : Int) : ByteArray := if n ≤ 0 then ⟨#[109, 48]⟩ else ⟨(109 :: mdig n.toNat).toArray⟩

/-- n marks from k on. -/
def marks (k : Int) (n : Nat) : List ByteArray := (List.range n).map fun (i : Nat) => mtext (k + (i : Int))
theorem marks_length (k : Int) (n : Nat) : (marks k n).length = n := by simp [marks]
theorem mtext_le (k : Int) (h : k ≤ 9223372036854775807) : (mtext k).size ≤ maxLen := by
  unfold mtext
  split
  · simp [ByteArray.size, maxLen]
  · have := mdig_le k.toNat (by omega)
    simp [ByteArray.size, maxLen]; omega

/-- The first j of the strings are marks. -/
def marked (k : Int) (l : List ByteArray) (j : Nat) : List ByteArray := marks k j ++ l.drop j
theorem marked_zero (k : Int) (l : List ByteArray) : marked k l 0 = l := by simp [marked, marks]
theorem marked_all (k : Int) (l : List ByteArray) : marked k l l.length = marks k l.length := by simp [marked]
theorem marked_length (k : Int) (l : List ByteArray) (j : Nat) (_h : j ≤ l.length) : (marked k l j).length = l.length := by simp [marked, marks]; omega
theorem marked_get (k : Int) (l : List ByteArray) (j : Nat) (h : j < l.length) : (marked k l j)[j]? = some l[j] := by
  unfold marked
  rw [List.getElem?_append_right (by simp [marks]), List.getElem?_drop]; simp [marks, h]
theorem marked_succ (k : Int) (l : List ByteArray) (j : Nat) (h : j < l.length) : (marked k l j).set j (mtext (k + j)) = marked k l (j + 1) := by
  unfold marked
  rw [List.set_append_right _ _ (by simp [marks])]
  simp only [marks_length, Nat.sub_self]
  rw [List.drop_eq_getElem_cons h, List.set_cons_zero]
  simp [marks, List.range_succ]

end Go.Proofs.YtinmmbnlflmobaaGreatDoor
