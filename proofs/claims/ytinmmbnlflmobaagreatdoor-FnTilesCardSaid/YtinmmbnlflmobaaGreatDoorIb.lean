/- ValidTiles of the reference. No condition but the reading. -/
import Derived.Test.YtinmmbnlflmobaaGreatDoorIa
namespace Go.Proofs.YtinmmbnlflmobaaGreatDoor
open Go.RowKit
/-- The first k letters rise. -/
def UpTo (s : ByteArray) (k : Nat) : Prop := ∀ i, i + 1 < k → (h : i + 1 < s.size) → s[i].toNat < s[i + 1].toNat
noncomputable instance (s : ByteArray) (k : Nat) : Decidable (UpTo s k) := Classical.propDecidable _
noncomputable def riseB (s : ByteArray) : Bool := decide (UpTo s s.size) && smallAll s.data.toList
theorem UpTo.succ {s : ByteArray} {j : Nat} (h : UpTo s (j + 1)) (hj : j + 1 < s.size) (hd : s[j].toNat < s[j + 1].toNat) : UpTo s (j + 1 + 1) := by
  intro i hi h2
  by_cases he : i = j
  · subst he; exact hd
  · exact h i (by omega) h2
set_option maxHeartbeats 1000000 in
theorem rising_any (s : ByteArray) (w : World) (hs : s.size ≤ maxLen) :
    Calls Tryz.prog 34 #[.string s] w fun e w' => e = .returned (.bool (riseB s)) ∧ Below w.heap.size w w' := by
  have hs' := Lib.hid hs
  unfold maxLen at hs
  go_enter Tryz.func34, Tryz.ntmps34
  go_wp2
  go_loopw [3] (fun i wr => ∃ j : Nat, j + 1 ≤ s.size + 1 ∧ i = .int .i64 ((j : Int) + 1) ∧ UpTo s (j + 1) ∧ Below w.heap.size w wr) (fun i _ => s.size + 1 - (intOf i).toNat)
  case atStart => exact ⟨0, by omega, rfl, fun i h _ => by omega, Below.refl _ _⟩
  case round =>
    obtain ⟨j, hj, rfl, hinc, hb⟩ := hrel
    have Hinc := Lib.hid hinc
    clear hinc
    by_cases hlt : j + 1 < s.size
    · have hj0 : j < s.size := by omega
      have hk1 : (0 : Int) ≤ (j : Int) + 1 := by omega
      have hk2 : (j : Int) + 1 < (s.size : Int) := by omega
      by_cases hd : s[j + 1].toNat ≤ s[j].toNat
      · have Hd := Lib.hid hd
        have hd1 : (s[j + 1].toNat ≤ s[j].toNat) = True := eq_true hd
        clear hd
        go_wp2
        go_quiet (fail)
        go_wp2
        go_ret
        exact ⟨ret_bool (by rw [riseB, decide_eq_false (fun H : UpTo s s.size => by have := H j hlt hlt; have := Hd.out; omega)]; rfl), below_drewN hb _⟩
      · have Hd := Lib.hid (show s[j].toNat < s[j + 1].toNat by omega)
        have hd1 : (s[j + 1].toNat ≤ s[j].toNat) = False := eq_false hd
        clear hd
        go_wp2
        go_quiet (fail)
        go_wp2
        go_roundw
        case rel => exact ⟨j + 1, by omega, by go_num, Hinc.out.succ hlt Hd.out, below_drewN hb _⟩
        case measure => simp [intOf]; omega
    · go_wp2_with fail
      refine (onlySmall_any s _ hs'.out).mono ?_
      rintro e w1 ⟨rfl, hb1⟩
      go_wp2
      go_ret
      have hU : UpTo s s.size := fun i h1 h2 => Hinc.out i (by omega) h2
      exact ⟨ret_bool (by rw [riseB, decide_eq_true hU, Bool.true_and]), hb.trans (hb1.mono hb.size)⟩
theorem all_getD {f : UInt8 → Bool} {s : ByteArray} (h : s.data.toList.all f = true) (k : Nat) (hk : k < s.size) : f s[k] = true := by
  rw [List.all_eq_true] at h
  exact h _ (by simp [ByteArray.getElem_eq_getElem_data])
theorem rise_small {s : ByteArray} (h : riseB s = true) (i : Nat) (hi : i < s.size) : smallI s[i].toNat = true := by
  simp only [riseB, Bool.and_eq_true] at h
  have := h.2
  unfold smallAll at this
  exact all_getD this i hi
theorem rise_up {s : ByteArray} (h : riseB s = true) : UpTo s s.size := by
  simp only [riseB, Bool.and_eq_true, decide_eq_true_eq] at h; exact h.1
theorem rise_ge {s : ByteArray} (h : riseB s = true) (i : Nat) (hi : i < s.size) : 97 + i ≤ s[i].toNat := by
  induction i with
  | zero => have := rise_small h 0 hi; simp [smallI] at this; omega
  | succ i ih =>
    have h1 := ih (by omega)
    have h2 := rise_up h i hi hi
    omega
theorem rise_le {s : ByteArray} (h : riseB s = true) : s.size ≤ 26 := by
  by_cases h0 : s.size ≤ 26
  · exact h0
  · have h1 := rise_ge h 26 (by omega)
    have h2 := rise_small h 26 (by omega)
    simp [smallI] at h2
    omega
end Go.Proofs.YtinmmbnlflmobaaGreatDoor
