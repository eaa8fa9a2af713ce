/- FnAnagrams, plainly: which words are anagrams, and which are made of a word's letters. No program is walked. -/
import Derived.Test.YthpjinfkagllfaaInL
import Derived.Test.YthpjinfkagllfaaAgL
import Derived.Test.YthpjinfkagllfaaRkL
import Derived.Test.YthpjinfkagllfaaLe
namespace Go.Proofs.Ythpjinfkagllfaa
theorem cnt_single (p q : Nat) (hp : p < 27) (hq : q < 27) : cntOf [tileB p] q = if q = p then 1 else 0 := by
  rw [cntOf_count _ q hq, List.count_singleton]
  by_cases h : q = p
  · subst h; simp
  · rw [if_neg h]
    have : (tileB p == tileB q) = false := by rw [beq_eq_false_iff_ne]; exact fun e => h (tileB_inj hp hq e).symm
    rw [this]; rfl
theorem cnt_cons (p q : Nat) (hp : p < 27) (hq : q < 27) (y : List UInt8) : cntOf (tileB p :: y) q = (if q = p then 1 else 0) + cntOf y q := by
  rw [← List.singleton_append, cntOf_append, cnt_single p q hp hq]
/-- Is a string among the first k of a list? -/
def seenB (L : List ByteArray) (k : Nat) (s : ByteArray) : Bool := (L.take k).any fun x => x.toList == s.toList
theorem seenB_zero (L : List ByteArray) (s : ByteArray) : seenB L 0 s = false := rfl
theorem seenB_succ {L : List ByteArray} {k : Nat} (h : k < L.length) (s : ByteArray) : seenB L (k + 1) s = (seenB L k s || L[k].toList == s.toList) := by
  unfold seenB; rw [List.take_succ_eq_append_getElem h, List.any_append]; simp
theorem seenB_all {L : List ByteArray} {s : ByteArray} (h : s ∈ L) : seenB L L.length s = true := by
  unfold seenB; rw [List.take_length, List.any_eq_true]; exact ⟨s, h, by simp⟩
theorem needR_zero : ∀ (l : List UInt8) (f : Nat → Int), tileAll l = true → (∀ p, 0 ≤ f p) → (needR f l = 0 ↔ ∀ p, p < 27 → cntOf l p ≤ f p)
  | [], f, _, h0 => by
    constructor
    · intro _ p _; rw [cntOf_nil]; exact h0 p
    · intro _; rfl
  | c :: r, f, ht, h0 => by
    have ht2 : tileAll r = true := by simp [tileAll] at ht ⊢; exact ht.2
    obtain ⟨p, hp, rfl⟩ := tileAll_mem ht (List.mem_cons_self ..)
    rw [needR_cons f _ r p ((placeI_iff _ p hp).2 rfl)]
    split
    · rename_i hf
      rw [needR_zero r _ ht2 fun q => by have := h0 q; have := h0 p; unfold upd; split <;> omega]
      constructor
      · intro h q hq
        have := h q hq
        rw [cnt_cons p q hp hq]
        unfold upd at this
        split at this
        · rename_i e; subst e; rw [if_pos rfl]; omega
        · rename_i e; rw [if_neg e]; omega
      · intro h q hq
        have := h q hq
        rw [cnt_cons p q hp hq] at this
        unfold upd
        split
        · rename_i e; subst e; rw [if_pos rfl] at this; omega
        · rename_i e; rw [if_neg e] at this; omega
    · rename_i hf
      have h1 := (needR_range r f).1
      constructor
      · intro h; omega
      · intro h
        have h2 := h p hp
        rw [cnt_cons p p hp hp, if_pos rfl] at h2
        have := (cntOf_le r p).1
        omega
theorem long_tiles {s : ByteArray} (h : isLong s = true) : tileAll s.data.toList = true ∧ s.size ≤ 12 ∧ cntOf s.data.toList 0 = 0 := by
  have hw := isLong_word h
  obtain ⟨h1, h2⟩ := word_tiles hw
  refine ⟨h1, h2, ?_⟩
  rw [cntOf_count _ 0 (by omega)]
  have : s.data.toList.count (tileB 0) = 0 := List.count_eq_zero.2 fun hm => by
    simp only [isWord, Bool.and_eq_true] at hw
    have := (List.all_eq_true.1 hw.1) _ hm
    simp [tileB, smallI] at this
  rw [this]; rfl
theorem sortB_pile {s : ByteArray} (h : isLong s = true) : isPile (sortB s) = true ∧ (sortB s).size = s.size ∧ ∀ p, cntOf (sortB s).data.toList p = cntOf s.data.toList p := by
  obtain ⟨h1, h2, -⟩ := long_tiles h
  have hp := pileOf_perm h1
  have hl : (sortB s).size = s.size := by
    show (pileOf (cntOf s.data.toList)).toArray.size = _
    rw [List.size_toArray, hp.length_eq]; simp
  have hl2 : (pileOf (cntOf s.data.toList)).length = s.size := by rw [hp.length_eq]; simp
  refine ⟨isPile_of (pileOf_tiles _) (pileOf_rises _) (by omega), hl, fun p => ?_⟩
  show cntOf (pileOf (cntOf s.data.toList)) p = _
  exact cntOf_perm hp p
theorem contains_need {a s : ByteArray} (ha : isLong a = true) (hs : isLong s = true) :
    decide (needR (cntOf (sortB a).data.toList) s.data.toList ≤ cntOf (sortB a).data.toList 0) = containsV (sortB a) (sortB s) := by
  obtain ⟨a1, -, a3⟩ := sortB_pile ha
  obtain ⟨s1, -, s3⟩ := sortB_pile hs
  obtain ⟨ht, -, -⟩ := long_tiles hs
  have ha0 : cntOf (sortB a).data.toList 0 = 0 := by rw [a3]; exact (long_tiles ha).2.2
  have h1 := (needR_range s.data.toList (cntOf (sortB a).data.toList)).1
  have h2 := needR_zero s.data.toList (cntOf (sortB a).data.toList) ht fun p => (cntOf_le _ p).1
  have h3 := containsV_iff a1 s1
  rw [ha0]
  cases hc : containsV (sortB a) (sortB s)
  · rw [decide_eq_false_iff_not]
    intro h
    have := h2.1 (by omega)
    rw [h3.2 fun p hp => by rw [s3]; exact this p hp] at hc
    cases hc
  · rw [decide_eq_true_eq]
    have := h3.1 hc
    rw [h2.2 fun p hp => by have := this p hp; rw [s3] at this; exact this]
    omega
theorem seenB_iff {L : List ByteArray} {s : ByteArray} : seenB L L.length s = true ↔ s ∈ L := by
  constructor
  · intro h
    unfold seenB at h
    rw [List.take_length, List.any_eq_true] at h
    obtain ⟨x, hx, e⟩ := h
    rw [← bytes_eq_of e]; exact hx
  · exact seenB_all
theorem seen_eq {L : List ByteArray} {s : ByteArray} {b : Bool} (h : s ∈ L ↔ b = true) : seenB L L.length s = b := by
  cases b with
  | true => exact seenB_iff.2 (h.2 rfl)
  | false =>
    cases hs : seenB L L.length s
    · rfl
    · exact absurd (h.1 (seenB_iff.1 hs)) (by simp)
/-- What the law asks. -/
structure AnLaw (l : List ByteArray) (a : ByteArray) : Prop where
  ag : agE l a = 0
  wf : wfE l (sortB a) = 0
  agInc : IncTo (agV l a) (agV l a).length
  wfInc : IncTo (wfV l (sortB a)) (wfV l (sortB a)).length
  agLen : (agV l a).length ≤ 200
  wfLen : (wfV l (sortB a)).length ≤ 200
  agAll : ∀ x ∈ agV l a, isLong x = true ∧ sortB x = sortB a ∧ hasB l x = true
  wfAll : ∀ x ∈ l, seenB (wfV l (sortB a)) (wfV l (sortB a)).length x = containsV (sortB a) (sortB x)
  last : hasB l a = (decide (0 < (agV l a).length) && seenB (agV l a) (agV l a).length a)
theorem anLaw {l : List ByteArray} {a : ByteArray} (hl : lexB l = true) (ha : isLong a = true) : AnLaw l a := by
  have hw := isLong_word ha
  obtain ⟨hp, -, -⟩ := sortB_pile ha
  have e1 : agV l a = l.filter (agP a) := by simp [agV, hl, hw]
  have e2 : wfV l (sortB a) = l.filter (fun s => decide (needR (cntOf (sortB a).data.toList) s.data.toList ≤ cntOf (sortB a).data.toList 0)) := by simp [wfV, hl, hp]
  have hi := lexB_Inc hl
  have h2 := lexB_len hl
  have hlong := lexB_long hl
  have fi : ∀ p : ByteArray → Bool, Inc (l.filter p) := fun p => List.Pairwise.sublist List.filter_sublist hi
  have fl : ∀ p : ByteArray → Bool, (l.filter p).length ≤ 200 := fun p => Nat.le_trans (List.length_filter_le p l) h2
  refine ⟨by simp [agE, hl, hw], by simp [wfE, hl, hp], by rw [e1]; exact (inc_iff _).1 (fi _), by rw [e2]; exact (inc_iff _).1 (fi _), by rw [e1]; exact fl _, by rw [e2]; exact fl _, fun x hx => ?_, fun x hx => ?_, ?_⟩
  · rw [e1] at hx
    obtain ⟨h3, h4⟩ := List.mem_filter.1 hx
    exact ⟨hlong x h3, of_decide_eq_true h4, hasB_iff.2 h3⟩
  · refine seen_eq ?_
    rw [e2, List.mem_filter, contains_need ha (hlong x hx)]
    exact ⟨fun h => h.2, fun h => ⟨hx, h⟩⟩
  · have hmem : a ∈ agV l a ↔ a ∈ l := by
      rw [e1, List.mem_filter]
      exact ⟨fun h => h.1, fun h => ⟨h, by simp [agP]⟩⟩
    rw [seen_eq (b := hasB l a) (by rw [hmem]; exact hasB_iff.symm)]
    cases hb : hasB l a
    · simp
    · have := List.length_pos_of_mem (hmem.2 (hasB_iff.1 hb))
      simp [this]
end Go.Proofs.Ythpjinfkagllfaa
