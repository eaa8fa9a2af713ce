/- The plain law of FnAffixes: what an affix makes of a word can be undone, and what is undone can be made again. No program in sight. -/
import Derived.Test.YtjefmicahadijaaDoorGc
namespace Go.Proofs.YtjefmicahadijaaDoor
open Go.RowKit
theorem cut_join (x : AffD) (r p : ByteArray) : cutB x (joinB x r p) p = true := by
  rw [cutB_iff]
  refine ⟨by rw [joinB_size]; omega, ?_⟩
  unfold endB joinB
  apply ba_inj
  cases x.front
  · simp only [Bool.false_eq_true, if_false]
    rw [ByteArray.data_extract, Array.toList_extract, List.extract_eq_take_drop, ba_app]
    have e1 : (r ++ p).size - p.size = r.data.toList.length := by simp
    rw [e1, List.drop_left]
    exact List.take_of_length_le (by simp)
  · simp only [if_true]
    rw [ByteArray.data_extract, Array.toList_extract, List.extract_eq_take_drop, ba_app, List.drop_zero]
    have e1 : p.size - 0 = p.data.toList.length := by simp
    rw [e1, List.take_left]
theorem und_again {x : AffD} {w : ByteArray} (h : (undV x w).2 = 0) : appV x (undV x w).1 = (w, 0) := by
  unfold undV at h ⊢
  by_cases h1 : affB x = true
  · by_cases h2 : isLong w = true
    · by_cases h3 : cutB x w x.add = true
      · by_cases h4 : (isLong (undB x w) && matB x (undB x w)) = true
        · simp only [h1, h2, h3, h4, if_true] at h ⊢
          simp only [Bool.and_eq_true] at h4
          rw [appV_ap h1 h4.1, apV_yes h4.2 (by rw [out_und h3]; exact h2), out_und h3]
        · simp [h1, h2, h3, h4] at h
      · simp [h1, h2, h3] at h
    · simp [h1, h2] at h
  · simp [h1] at h
theorem app_again {x : AffD} {w : ByteArray} (h : (appV x w).2 = 0) : undV x (appV x w).1 = (w, 0) ∧ mafV x w = true := by
  unfold appV at h ⊢
  by_cases h1 : affB x = true
  · by_cases h2 : isLong w = true
    · simp only [h1, h2, if_true] at h ⊢
      unfold apV at h ⊢
      by_cases h3 : matB x w = true
      · by_cases h4 : isLong (outB x w) = true
        · simp only [h3, h4, if_true] at h ⊢
          have e1 : cutB x (outB x w) x.add = true := cut_join x _ _
          have e2 : undB x (outB x w) = w := by
            unfold undB outB
            rw [rest_join]
            exact join_rest (matB_strip h3)
          refine ⟨?_, by simp [mafV, h1, h2, h3]⟩
          rw [undV_yes h1 h4 e1 (by rw [e2]; exact h2) (by rw [e2]; exact h3), e2]
        · simp [h3, h4] at h
      · simp [h3] at h
    · simp [h1, h2] at h
  · simp [h1] at h
theorem app_not {x : AffD} {w : ByteArray} (h : (appV x w).2 = 3) : mafV x w = false := by
  unfold appV at h
  unfold mafV
  by_cases h1 : affB x = true
  · by_cases h2 : isLong w = true
    · simp only [h1, h2, if_true] at h
      unfold apV at h
      by_cases h3 : matB x w = true
      · by_cases h4 : isLong (outB x w) = true <;> simp [h3, h4] at h
      · simp [h3]
    · simp [h1, h2] at h
  · simp [h1] at h
theorem long_le {s : ByteArray} (h : isLong s = true) : s.size ≤ 12 := isLong_12 h
theorem undV_le (x : AffD) (w : ByteArray) : (undV x w).1.size ≤ 12 := by
  unfold undV
  split
  · split
    · split
      · split
        · rename_i h; simp only [Bool.and_eq_true] at h; exact isLong_12 h.1
        · simp [ByteArray.size]
      · simp [ByteArray.size]
    · simp [ByteArray.size]
  · simp [ByteArray.size]
theorem appV_le (x : AffD) (w : ByteArray) : (appV x w).1.size ≤ 12 := by
  unfold appV
  split
  · split
    · unfold apV
      split
      · split
        · rename_i h; exact isLong_12 h
        · simp [ByteArray.size]
      · simp [ByteArray.size]
    · simp [ByteArray.size]
  · simp [ByteArray.size]
theorem appV_codes (x : AffD) (w : ByteArray) : (appV x w).2 = 0 ∨ (appV x w).2 = 1 ∨ (appV x w).2 = 2 ∨ (appV x w).2 = 3 ∨ (appV x w).2 = 7 := by
  unfold appV apV
  split <;> (try split) <;> (try split) <;> (try split) <;> simp
theorem undV_codes (x : AffD) (w : ByteArray) : (undV x w).2 = 0 ∨ (undV x w).2 = 1 ∨ (undV x w).2 = 3 ∨ (undV x w).2 = 7 := by
  unfold undV
  split <;> (try split) <;> (try split) <;> (try split) <;> simp
end Go.Proofs.YtjefmicahadijaaDoor
