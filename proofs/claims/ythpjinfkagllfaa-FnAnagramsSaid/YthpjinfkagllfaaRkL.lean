/- The plain law of FnRacks: tiles that are added can be taken again; common tiles are in both piles. No program in sight. -/
import Derived.Test.YthpjinfkagllfaaK
namespace Go.Proofs.Ythpjinfkagllfaa
open Go.RowKit
theorem isPile_of {l : List UInt8} (ht : tileAll l = true) (hr : Rises l) (hl : l.length ≤ 120) : isPile ⟨l.toArray⟩ = true := by
  simp only [isPile, Bool.and_eq_true, decide_eq_true_eq]
  exact ⟨⟨ht, (sortedB_iff _).2 hr⟩, by simpa [ByteArray.size] using hl⟩
theorem pile_ext {a b : ByteArray} (ha : isPile a = true) (hb : isPile b = true) (h : ∀ p, p < 27 → cntOf a.data.toList p = cntOf b.data.toList p) : a = b := by
  obtain ⟨ta, ra, _⟩ := pile_parts ha
  obtain ⟨tb, rb, _⟩ := pile_parts hb
  have := rises_unique ra rb (tiles_perm ta tb h)
  apply ByteArray.ext
  exact Array.toList_inj.1 this
theorem data_len (a : ByteArray) : a.data.toList.length = a.size := by simp
theorem takeV_spec {a b : ByteArray} (ha : isPile a = true) (hb : isPile b = true) (h : geTo (cntOf a.data.toList) (cntOf b.data.toList) 27) :
    ∃ r, takeV a b = (r, 0) ∧ isPile r = true ∧ ∀ p, p < 27 → cntOf r.data.toList p = cntOf a.data.toList p - cntOf b.data.toList p := by
  obtain ⟨ta, ra, la⟩ := pile_parts ha
  obtain ⟨tb, rb, lb⟩ := pile_parts hb
  obtain ⟨h1, h2⟩ := takeR_ok ra rb ta tb h
  have hs := takeR_sub a.data.toList b.data.toList
  refine ⟨_, takeV_yes ha hb (by rw [h1]; rfl), isPile_of (tiles_sub hs ta) (rises_sub hs ra) (by have := hs.length_le; have := data_len a; omega), fun p hp => ?_⟩
  show cntOf (takeR a.data.toList b.data.toList).1 p = _
  rw [h2, cntOf_pileOf _ _ hp (by have := h p hp; simp only [subC]; omega)]
  rfl
theorem containsV_iff {a b : ByteArray} (ha : isPile a = true) (hb : isPile b = true) : containsV a b = true ↔ geTo (cntOf a.data.toList) (cntOf b.data.toList) 27 := by
  obtain ⟨ta, ra, la⟩ := pile_parts ha
  obtain ⟨tb, rb, lb⟩ := pile_parts hb
  unfold containsV
  rw [ha, hb]
  by_cases h : geTo (cntOf a.data.toList) (cntOf b.data.toList) 27
  · simp [(takeR_ok ra rb ta tb h).1, h]
  · simp [takeR_no ta tb h, h]
theorem commV_spec {a b : ByteArray} (ha : isPile a = true) (hb : isPile b = true) :
    ∃ c, commV a b = (c, 0) ∧ isPile c = true ∧ ∀ p, p < 27 → cntOf c.data.toList p = min (cntOf a.data.toList p) (cntOf b.data.toList p) := by
  obtain ⟨ta, ra, la⟩ := pile_parts ha
  obtain ⟨tb, rb, lb⟩ := pile_parts hb
  have hs := commR_sub _ a.data.toList b.data.toList (Nat.le_refl _)
  refine ⟨⟨(commR a.data.toList b.data.toList).toArray⟩, by unfold commV; rw [ha, hb]; rfl, isPile_of (tiles_sub hs ta) (rises_sub hs ra) (by have := hs.length_le; have := data_len a; omega), fun p hp => ?_⟩
  show cntOf (commR a.data.toList b.data.toList) p = _
  rw [commR_pile ra rb ta, cntOf_pileOf _ _ hp]
  · rfl
  · have h1 := cntOf_le a.data.toList p
    have h2 := cntOf_le b.data.toList p
    simp only [minC]; omega
theorem addV_spec {a b : ByteArray} (ha : isPile a = true) (hb : isPile b = true) (hl : a.size + b.size ≤ 120) :
    ∃ c, addV a b = (c, 0) ∧ isPile c = true ∧ ∀ p, p < 27 → cntOf c.data.toList p = cntOf a.data.toList p + cntOf b.data.toList p := by
  obtain ⟨ta, ra, la⟩ := pile_parts ha
  obtain ⟨tb, rb, lb⟩ := pile_parts hb
  have tt : tileAll (a.data.toList ++ b.data.toList) = true := by rw [tileAll_append, ta, tb]; rfl
  have hp := pileOf_perm tt
  refine ⟨⟨(pileOf (cntOf (a.data.toList ++ b.data.toList))).toArray⟩, by unfold addV; rw [ha, hb, if_pos (by rfl), if_pos hl], isPile_of (pileOf_tiles _) (pileOf_rises _) (by rw [hp.length_eq, List.length_append, data_len, data_len]; exact hl), fun p _ => ?_⟩
  show cntOf (pileOf (cntOf (a.data.toList ++ b.data.toList))) p = _
  rw [cntOf_perm hp, cntOf_append]
theorem cnt_zero {c : ByteArray} (hc : isPile c = true) (h : ∀ p, p < 27 → cntOf c.data.toList p = 0) : c = ⟨#[]⟩ := by
  refine pile_ext hc (b := ⟨#[]⟩) rfl fun p hp => ?_
  rw [h p hp]; simp [cntOf]
/-- The law. -/
theorem racks_law {a b : ByteArray} (ha : isPile a = true) (hb : isPile b = true) (hl : a.size + b.size ≤ 120) :
    ∃ s c r m, addV a b = (s, 0) ∧ takeV s b = (a, 0) ∧ commV a b = (c, 0) ∧ commV b a = (c, 0) ∧ containsV a c = true ∧ containsV b c = true ∧ takeV a c = (r, 0) ∧ takeV b c = (m, 0) ∧ commV r m = (⟨#[]⟩, 0) ∧
      containsV a b = decide (c = b) ∧ s.size ≤ 120 ∧ c.size ≤ 120 ∧ r.size ≤ 120 ∧ m.size ≤ 120 := by
  obtain ⟨s, es, ps, cs⟩ := addV_spec ha hb hl
  obtain ⟨c, ec, pc, cc⟩ := commV_spec ha hb
  obtain ⟨c', ec', pc', cc'⟩ := commV_spec hb ha
  obtain rfl : c' = c := pile_ext pc' pc fun p hp => by rw [cc p hp, cc' p hp]; omega
  have na := fun p => (cntOf_le a.data.toList p).1
  have nb := fun p => (cntOf_le b.data.toList p).1
  obtain ⟨t, et, pt, ct⟩ := takeV_spec ps hb (fun p hp => by rw [cs p hp]; have := na p; omega)
  obtain rfl : t = a := pile_ext pt ha fun p hp => by rw [ct p hp, cs p hp]; omega
  have g1 : geTo (cntOf t.data.toList) (cntOf c'.data.toList) 27 := fun p hp => by rw [cc p hp]; omega
  have g2 : geTo (cntOf b.data.toList) (cntOf c'.data.toList) 27 := fun p hp => by rw [cc p hp]; omega
  obtain ⟨r, er, pr, cr⟩ := takeV_spec ha pc g1
  obtain ⟨m, em, pm, cm⟩ := takeV_spec hb pc g2
  obtain ⟨n, en, pn, cn⟩ := commV_spec pr pm
  obtain rfl : n = ⟨#[]⟩ := cnt_zero pn fun p hp => by rw [cn p hp, cr p hp, cm p hp, cc p hp]; omega
  refine ⟨s, c', r, m, es, et, ec, ec', (containsV_iff ha pc).2 g1, (containsV_iff hb pc).2 g2, er, em, en, ?_, (pile_parts ps).2.2, (pile_parts pc).2.2, (pile_parts pr).2.2, (pile_parts pm).2.2⟩
  by_cases h : c' = b
  · subst h
    rw [decide_eq_true rfl]
    exact (containsV_iff ha hb).2 g1
  · rw [decide_eq_false h]
    cases hc : containsV t b
    · rfl
    · exfalso
      apply h
      have := (containsV_iff ha hb).1 hc
      exact pile_ext pc hb fun p hp => by have := this p hp; rw [cc p hp]; omega
end Go.Proofs.Ythpjinfkagllfaa
