/- The plain law of FnTiles: a tile set's tiles, values and text. No program in sight. -/
import Derived.Test.YtinmmbnlflmobaaGreatDoorSt
import Derived.Test.YtinmmbnlflmobaaGreatDoorIj
namespace Go.Proofs.YtinmmbnlflmobaaGreatDoor
open Go.RowKit
theorem range_getD_sum : ∀ (l : List Int), ((List.range l.length).map fun i => l.getD i 0).sum = l.sum
  | [] => rfl
  | a :: l => by
    rw [List.length_cons, List.range_succ_eq_map, List.map_cons, List.map_map, List.sum_cons, List.sum_cons, ← range_getD_sum l]
    rfl
/-- All tiles ascend. -/
theorem allTo_rises {x : TileD} (H : TilP x) : ∀ j, j ≤ x.letters.size → Rises (allTo x j) ∧ ∀ c ∈ allTo x j, c.toNat = 63 ∨ ∃ i, i < j ∧ ∃ h : i < x.letters.size, c = x.letters[i]
  | 0, _ => by
    rw [allTo_zero]
    refine ⟨?_, fun c hc => .inl (by rw [List.eq_of_mem_replicate hc]; rfl)⟩
    unfold Rises
    rw [List.pairwise_iff_getElem]
    intro i k hi hk _
    simp
  | j + 1, hj => by
    obtain ⟨ih1, ih2⟩ := allTo_rises H j (by omega)
    have hc : j < x.counts.length := by have := H.lc; omega
    rw [allTo_succ x j (by omega) hc]
    have hup : ∀ (i k : Nat) (hik : i < k) (hk : k < x.letters.size), (x.letters[i]'(by omega)).toNat < x.letters[k].toNat := by
      intro i k hik hk
      induction k with
      | zero => omega
      | succ k ih =>
        have h1 := H.up k hk
        by_cases e : i = k
        · subst e; exact h1
        · exact Nat.lt_trans (ih (by omega) (by omega)) h1
    have hsm := H.sm j (by omega)
    have h97 : 97 ≤ (x.letters[j]'(by omega)).toNat := by simp [smallI] at hsm; omega
    constructor
    · unfold Rises
      rw [List.pairwise_append]
      refine ⟨ih1, ?_, ?_⟩
      · rw [List.pairwise_iff_getElem]
        intro i k hi hk _
        simp
      · intro a ha b hb
        rw [List.eq_of_mem_replicate hb]
        rcases ih2 a ha with h | ⟨i, hi, h, rfl⟩
        · omega
        · exact Nat.le_of_lt (hup i j hi (by omega))
    · intro c hcm
      rcases List.mem_append.1 hcm with h | h
      · rcases ih2 c h with h | ⟨i, hi, h2, e⟩
        · exact .inl h
        · exact .inr ⟨i, by omega, h2, e⟩
      · exact .inr ⟨j, by omega, by omega, List.eq_of_mem_replicate h⟩
theorem all_pile {x : TileD} (H : TilP x) : isPile (allB x) = true := by
  obtain ⟨h1, h2⟩ := allTo_rises H x.letters.size (Nat.le_refl _)
  simp only [isPile, Bool.and_eq_true, decide_eq_true_eq]
  refine ⟨⟨?_, (sortedB_iff _).2 h1⟩, allB_le H⟩
  show tileAll (allTo x x.letters.size) = true
  refine tileAll_of fun c hc => ?_
  rcases h2 c hc with h | ⟨i, hi, h, rfl⟩
  · simp [tileI, h]
  · simp [tileI, H.sm i h]
theorem all_size {x : TileD} (H : TilP x) : ((allB x).size : Int) = x.blanks + x.counts.sum := by
  have h := allTo_len H x.letters.size (Nat.le_refl _)
  rw [List.take_of_length_le (by have := H.lc; omega)] at h
  rw [← h]
  show (((allTo x x.letters.size).toArray.size : Nat) : Int) = _
  simp
theorem tilB_P' {x : TileD} (H : TilP x) : tilB x = true := (tilB_true H).symm
theorem riseP {x : TileD} (H : TilP x) : riseB x.letters = true := rise_of H
theorem cnt_at {x : TileD} (H : TilP x) {j : Nat} (hj : j < x.letters.size) : cntV x (x.letters[j].toNat : Int) = x.counts.getD j 0 := by
  have hsm := H.sm j hj
  have h97 : 97 ≤ x.letters[j].toNat := by simp [smallI] at hsm; omega
  rw [← cntV_yes (tilB_P' H), cntF_at (by omega) (idxB_self (riseP H) j hj) (by have := H.lc; omega), List.getD_eq_getElem?_getD, List.getElem?_eq_getElem (by have := H.lc; omega)]
  rfl
theorem val_at {x : TileD} (H : TilP x) {j : Nat} (hj : j < x.letters.size) : valV x (x.letters[j].toNat : Int) = x.values.getD j 0 := by
  rw [← valV_yes (tilB_P' H), valF_at (idxB_self (riseP H) j hj) (by have := H.lv; omega), List.getD_eq_getElem?_getD, List.getElem?_eq_getElem (by have := H.lv; omega)]
  rfl
theorem cnt_b {x : TileD} (H : TilP x) : cntV x 63 = x.blanks := by rw [← cntV_yes (tilB_P' H), cntF_b]
theorem read_text {x : TileD} (H : TilP x) : rtV (textV x) = x ∧ rtB (textV x) = true := by
  rw [textV_yes (tilB_P' H)]
  exact rt_some (readT_some H)
end Go.Proofs.YtinmmbnlflmobaaGreatDoor
