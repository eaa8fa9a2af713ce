/- Lists of bytes: where a byte stands, beginnings, ends, and what ReplaceAll leaves. No condition; no program. -/
import Derived.Test.YtinmmbnlflmobaaGreatDoorEq
import Derived.Test.YtinmmbnlflmobaaGreatDoorM
import Derived.Lib.Bytealg
import Derived.Lib.Strings
import Derived.Lib.Replace
import Derived.Lib.CountLaws
import Derived.Lib.IndexBytes
namespace Go.Proofs.YtinmmbnlflmobaaGreatDoor
open Go.RowKit
theorem indexByte_spec (l : List UInt8) (c : UInt8) : (Lib.indexByte l c = -1 ∧ ∀ i, (h : i < l.length) → l[i] ≠ c) ∨ (∃ k, ∃ h : k < l.length, Lib.indexByte l c = (k : Int) ∧ l[k] = c ∧ ∀ i, (hi : i < k) → l[i]'(by omega) ≠ c) := by
  induction l with
  | nil => left; exact ⟨rfl, fun i h => by simp at h⟩
  | cons b l ih =>
    by_cases hb : b = c
    · right; refine ⟨0, by simp, ?_, by simpa using hb, fun i hi => by omega⟩
      simp [Lib.indexByte, hb]
    · rcases ih with ⟨h1, h2⟩ | ⟨k, hk, h1, h2, h3⟩
      · left
        refine ⟨by simp [Lib.indexByte, hb, h1], fun i h => ?_⟩
        cases i with
        | zero => simpa using hb
        | succ i => simpa using h2 i (by simpa using h)
      · right
        refine ⟨k + 1, by simpa using hk, ?_, by simpa using h2, fun i hi => ?_⟩
        · have : ((k : Int) == -1) = false := by rw [beq_eq_false_iff_ne]; omega
          simp [Lib.indexByte, hb, h1]
        · cases i with
          | zero => simpa using hb
          | succ i => simpa using h3 i (by omega)
/-- Beginning with p. -/
def begP (p s : ByteArray) : Bool := Lib.hasPrefix s.data.toList p.data.toList
theorem ext_take (s : ByteArray) (n : Nat) : (s.extract 0 n).data.toList = s.data.toList.take n := by
  rw [ByteArray.data_extract, Array.toList_extract, List.extract_eq_take_drop]; simp
theorem begP_iff {s p : ByteArray} : begP p s = true ↔ p.size ≤ s.size ∧ s.extract 0 p.size = p := by
  have hp : p.data.toList.length = p.size := Array.length_toList
  have hs : s.data.toList.length = s.size := Array.length_toList
  unfold begP Lib.hasPrefix
  rw [List.isPrefixOf_iff_prefix, List.prefix_iff_eq_take, hp]
  constructor
  · intro h
    have hl := congrArg List.length h
    rw [List.length_take, hp, hs] at hl
    refine ⟨by omega, ?_⟩
    apply ByteArray.ext
    apply Array.toList_inj.1
    rw [ext_take]
    exact h.symm
  · rintro ⟨_, h⟩
    rw [← ext_take, h]
theorem ext_drop (s : ByteArray) (n : Nat) : (s.extract n s.size).data.toList = s.data.toList.drop n := by
  rw [ByteArray.data_extract, Array.toList_extract, List.extract_eq_take_drop, List.take_of_length_le]
  rw [List.length_drop, Array.length_toList]
  exact Nat.le_refl _
theorem ba_inj {a b : ByteArray} (h : a.data.toList = b.data.toList) : a = b := by
  apply ByteArray.ext
  exact Array.toList_inj.1 h
theorem ba_sz (s : ByteArray) : s.data.toList.length = s.size := Array.length_toList
/-- Ending with p. -/
def finP (p s : ByteArray) : Bool := Lib.hasSuffix s.data.toList p.data.toList
theorem finP_iff {s p : ByteArray} : finP p s = true ↔ p.size ≤ s.size ∧ s.extract (s.size - p.size) s.size = p := by
  unfold finP Lib.hasSuffix
  rw [List.isSuffixOf_iff_suffix, List.suffix_iff_eq_drop, ba_sz, ba_sz]
  constructor
  · intro h
    have hl := congrArg List.length h
    rw [List.length_drop, ba_sz, ba_sz] at hl
    exact ⟨by omega, ba_inj (by rw [ext_drop]; exact h.symm)⟩
  · rintro ⟨_, h⟩
    rw [← ext_drop, h]
/-- ReplaceAll(s, c, nothing) leaves the other bytes. -/
theorem replace_filter (c : UInt8) : ∀ (n : Nat) (s : List UInt8), s.length ≤ n → Lib.replaceK [c] [] (Lib.count s [c]) s = s.filter (fun b => b != c)
  | n, s, hn => by
    rcases indexByte_spec s c with ⟨h1, h2⟩ | ⟨k, hk, h1, h2, h3⟩
    · have hi : Lib.index s [c] = -1 := by rw [Lib.index_one]; exact h1
      rw [Lib.count_miss hi, Lib.replaceK, eq_comm, List.filter_eq_self]
      intro b hb
      obtain ⟨i, hi, rfl⟩ := List.getElem_of_mem hb
      simpa using h2 i hi
    · have hi : Lib.index s [c] = (k : Int) := by rw [Lib.index_one]; exact h1
      have hne : ([c] : List UInt8) ≠ [] := by simp
      rw [Lib.count_hit hne hi, Nat.add_comm, Lib.replaceK_hit _ _ _ _ _ hi]
      have hd : (s.drop (k + 1)).length < s.length := by rw [List.length_drop]; omega
      match n, hn with
      | 0, hn => omega
      | n + 1, hn =>
        have ih := replace_filter c n (s.drop (k + 1)) (by omega)
        simp only [List.length_singleton] at *
        rw [ih]
        have e : s = s.take k ++ s[k] :: s.drop (k + 1) := by rw [← List.drop_eq_getElem_cons hk, List.take_append_drop]
        have e1 : (s.take k).filter (fun b => b != c) = s.take k := by
          rw [List.filter_eq_self]
          intro b hb
          obtain ⟨i, hi, rfl⟩ := List.getElem_of_mem hb
          rw [List.length_take] at hi
          rw [List.getElem_take]
          simpa using h3 i (by omega)
        conv => rhs; rw [e]
        rw [List.filter_append, List.filter_cons, e1, h2]
        simp
theorem replaceAll_filter (s : List UInt8) (c : UInt8) : Lib.replaceAll s [c] [] = s.filter (fun b => b != c) := by
  unfold Lib.replaceAll Lib.replace
  rw [if_neg (by simp)]
  have : Lib.replaceNum s [c] (-1) = Lib.count s [c] := by simp [Lib.replaceNum]
  rw [this]
  exact replace_filter c s.length s (Nat.le_refl _)
/-- Small letters and periods. -/
def wildAll (l : List UInt8) : Bool := l.all fun c => smallI c.toNat || decide (c = 46)
theorem dots_small (s : List UInt8) : smallAll (Lib.replaceAll s [46] []) = wildAll s := by
  rw [replaceAll_filter]
  unfold smallAll wildAll
  rw [List.all_filter]
  congr 1
  funext c
  by_cases h : c = 46
  · subst h; simp
  · simp [h]
end Go.Proofs.YtinmmbnlflmobaaGreatDoor
