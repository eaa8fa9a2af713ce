/- FnSubRacks, plainly: the runs of a rack, and the order of its sub-racks, as the law asks for them. No program is walked. -/
import Derived.Test.YthpjinfkagllfaaRkL
import Derived.Test.YthpjinfkagllfaaSuI
namespace Go.Proofs.Ythpjinfkagllfaa
theorem pileTo_part (g : Nat → Int) (p q : Nat) (h : p ≤ q) : ∃ t, pileTo g q = pileTo g p ++ t ∧ ∀ c ∈ t, ∃ r, p ≤ r ∧ r < q ∧ c = tileB r := by
  obtain ⟨d, rfl⟩ := Nat.exists_eq_add_of_le h
  induction d with
  | zero => exact ⟨[], by simp, by simp⟩
  | succ d ih =>
    obtain ⟨t, ht, hm⟩ := ih (by omega)
    refine ⟨t ++ List.replicate (g (p + d)).toNat (tileB (p + d)), by rw [← Nat.add_assoc, pileTo_succ, ht, List.append_assoc], fun c hc => ?_⟩
    rcases List.mem_append.1 hc with hc | hc
    · obtain ⟨r, h1, h2, h3⟩ := hm c hc
      exact ⟨r, h1, by omega, h3⟩
    · obtain ⟨-, rfl⟩ := List.mem_replicate.1 hc
      exact ⟨p + d, by omega, by omega, rfl⟩
/-- Where the walk stands ahead of a run: place p's, behind i tiles, with the product so far. -/
def RunAt (f : Nat → Int) (i W : Nat) : Prop := ∃ p, p ≤ 27 ∧ (pileTo f p).length = i ∧ prodTo f p = W
theorem RunAt.start (f : Nat → Int) : RunAt f 0 1 := ⟨0, by omega, rfl, rfl⟩
theorem run_next (f : Nat → Int) : ∀ (d p : Nat), d + p = 27 → (pileTo f p).length < (pileTo f 27).length → ∃ q, p ≤ q ∧ q < 27 ∧ 1 ≤ (f q).toNat ∧ (pileTo f q).length = (pileTo f p).length ∧ prodTo f q = prodTo f p
  | 0, p, h, hlt => by obtain rfl : p = 27 := by omega
                       omega
  | d + 1, p, h, hlt => by
    by_cases h0 : (f p).toNat = 0
    · have e1 : pileTo f (p + 1) = pileTo f p := by rw [pileTo_succ, h0]; simp
      have e2 : prodTo f (p + 1) = prodTo f p := by rw [prodTo, h0]; simp
      obtain ⟨q, h1, h2, h3, h4, h5⟩ := run_next f d (p + 1) (by omega) (by rw [e1]; exact hlt)
      exact ⟨q, by omega, h2, h3, by rw [h4, e1], by rw [h5, e2]⟩
    · exact ⟨p, Nat.le_refl _, by omega, by omega, rfl, rfl⟩
/-- A run of n equal tiles, and what is behind it. -/
theorem RunAt.run {f : Nat → Int} {i W : Nat} {s : ByteArray} (h : RunAt f i W) (hs : s.data.toList = pileTo f 27) (hi : i < s.size) :
    ∃ n, 1 ≤ n ∧ i + n ≤ s.size ∧ RunAt f (i + n) (W * (n + 1)) ∧ (∀ k (hk : k < s.size), i ≤ k → k < i + n → (s[k] == s[i]) = true) ∧ (∀ (hk : i + n < s.size), (s[i + n] == s[i]) = false) := by
  obtain ⟨p, hp, h1, h2⟩ := h
  have hl : s.data.toList.length = s.size := Array.length_toList
  obtain ⟨q, hq1, hq2, hq3, hq4, hq5⟩ := run_next f (27 - p) p (by omega) (by rw [h1, ← hs, hl]; exact hi)
  obtain ⟨n, hn⟩ : ∃ n, n = (f q).toNat := ⟨_, rfl⟩
  obtain ⟨t, ht, hm⟩ := pileTo_part f (q + 1) 27 (by omega)
  have e : s.data.toList = pileTo f q ++ List.replicate n (tileB q) ++ t := by rw [hs, ht, pileTo_succ, hn]
  have hlen := congrArg List.length e
  rw [hl, List.length_append, List.length_append, List.length_replicate] at hlen
  have hget : ∀ k (hk : k < s.size), i ≤ k → k < i + n → s[k] = tileB q := fun k hk h3 h4 => by
    have : s.data.toList[k]? = some (tileB q) := by
      rw [e, List.append_assoc, List.getElem?_append_right (by omega), List.getElem?_append_left (by simp; omega), List.getElem?_replicate, if_pos (by omega)]
    rw [List.getElem?_eq_getElem (by rw [hl]; exact hk)] at this
    exact Option.some.inj this
  refine ⟨n, by omega, by omega, ⟨q + 1, by omega, by rw [pileTo_succ, List.length_append, List.length_replicate]; omega, by rw [prodTo, hq5, h2, hn]⟩, fun k hk h3 h4 => ?_, fun hk => ?_⟩
  · rw [hget k hk h3 h4, hget i hi (Nat.le_refl _) (by omega)]; simp
  · rw [hget i hi (Nat.le_refl _) (by omega), beq_eq_false_iff_ne]
    have hk2 : i + n - (pileTo f q).length - n < t.length := by omega
    have : s.data.toList[i + n]? = t[i + n - (pileTo f q).length - n]? := by
      rw [e, List.append_assoc, List.getElem?_append_right (by omega), List.getElem?_append_right (by simp; omega), List.length_replicate]
    rw [List.getElem?_eq_getElem (by rw [hl]; exact hk), List.getElem?_eq_getElem hk2] at this
    have h5 : s[i + n] = t[i + n - (pileTo f q).length - n] := Option.some.inj this
    rw [h5]
    obtain ⟨r, h6, h7, h8⟩ := hm _ (List.getElem_mem hk2)
    rw [h8]
    intro e2
    have := tileB_inj h7 hq2 e2
    omega
theorem prodTo_pos (f : Nat → Int) : ∀ p, 1 ≤ prodTo f p
  | 0 => Nat.le_refl _
  | p + 1 => by rw [prodTo]; exact Nat.mul_pos (prodTo_pos f p) (by omega)
theorem prodTo_mono (f : Nat → Int) (p d : Nat) : prodTo f p ≤ prodTo f (p + d) := by
  induction d with
  | zero => exact Nat.le_refl _
  | succ d ih => rw [← Nat.add_assoc, prodTo]; exact Nat.le_trans ih (Nat.le_mul_of_pos_right _ (by omega))
theorem RunAt.le {f : Nat → Int} {i W : Nat} (h : RunAt f i W) : W ≤ prodTo f 27 := by
  obtain ⟨p, hp, -, rfl⟩ := h
  have := prodTo_mono f p (27 - p)
  rwa [show p + (27 - p) = 27 by omega] at this
theorem RunAt.fin {f : Nat → Int} {W : Nat} (h : RunAt f (pileTo f 27).length W) : W = prodTo f 27 := by
  obtain ⟨p, hp, h1, rfl⟩ := h
  obtain ⟨d, hd⟩ : ∃ d, d + p = 27 := ⟨27 - p, by omega⟩
  induction d generalizing p with
  | zero => obtain rfl : p = 27 := by omega
            rfl
  | succ d ih =>
    have hle : (pileTo f (p + 1)).length ≤ (pileTo f 27).length := by
      obtain ⟨t, ht, -⟩ := pileTo_part f (p + 1) 27 (by omega)
      rw [ht, List.length_append]; omega
    have h0 : (f p).toNat = 0 := by rw [pileTo_succ, List.length_append, List.length_replicate] at hle; omega
    have e1 : pileTo f (p + 1) = pileTo f p := by rw [pileTo_succ, h0]; simp
    have e2 : prodTo f (p + 1) = prodTo f p := by rw [prodTo, h0]; simp
    rw [← e2]
    exact ih (p + 1) (by omega) (by rw [e1]; exact h1) (by omega)
/-- Is a string among the first k of a list? -/
def seenB (L : List ByteArray) (k : Nat) (s : ByteArray) : Bool := (L.take k).any fun x => x.toList == s.toList
theorem seenB_zero (L : List ByteArray) (s : ByteArray) : seenB L 0 s = false := rfl
theorem seenB_succ {L : List ByteArray} {k : Nat} (h : k < L.length) (s : ByteArray) : seenB L (k + 1) s = (seenB L k s || L[k].toList == s.toList) := by
  unfold seenB; rw [List.take_succ_eq_append_getElem h, List.any_append]; simp
theorem seenB_all {L : List ByteArray} {s : ByteArray} (h : s ∈ L) : seenB L L.length s = true := by
  unfold seenB; rw [List.take_length, List.any_eq_true]; exact ⟨s, h, by simp⟩
/-- What the law asks of the sub-racks of a rack. -/
structure SubLaw (a : ByteArray) (L : List ByteArray) : Prop where
  rack : isRack a = true
  pile : a.data.toList = pileTo (cntOf a.data.toList) 27
  len : L.length = prodTo (cntOf a.data.toList) 27
  small : L.length ≤ 128
  max : ∀ x ∈ L, x.size ≤ 7
  rest : ∀ x ∈ L, ∃ r, takeV a x = (r, 0) ∧ r ∈ L ∧ r.size ≤ 7
  asc : ∀ i (h : i + 1 < L.length), L[i].size < L[i + 1].size ∨ L[i + 1].size = L[i].size ∧ Op.bytesLess L[i].toList L[i + 1].toList = true
theorem mkT_of {l : List UInt8} {s : ByteArray} (h : s.data.toList = l) : mkT l = s := by
  subst h; rfl
theorem subLaw {a : ByteArray} (h : isRack a = true) : SubLaw a (srV a) ∧ srE a = 0 := by
  obtain ⟨hR, hta, hri⟩ := rackF h
  obtain ⟨h1, h2⟩ := srV_yes h
  have hl : a.data.toList.length = a.size := Array.length_toList
  have h3 : srV a = (subsAll (cntOf a.data.toList) a.size).map mkT := by simp [srV, h]
  have hp := h
  simp only [isRack, Bool.and_eq_true, decide_eq_true_eq] at hp
  refine ⟨⟨h, (pile_self hri hta).symm, ?_, by rw [h1]; exact hR.all, fun x hx => ?_, fun x hx => ?_, fun i hi => ?_⟩, h2⟩
  · rw [h3, List.length_map, ← hl, subsAll_count hri hta, prod_all]
  · rw [h3] at hx
    obtain ⟨y, hy, rfl⟩ := List.mem_map.1 hx
    have := subsAll_len hy
    rw [mkT_size]; omega
  · rw [h3] at hx
    obtain ⟨y, hy, rfl⟩ := List.mem_map.1 hx
    rw [← hl] at hy
    obtain ⟨h4, h5⟩ := subsAll_rest hri hta hy
    have h0 : ∀ p, 0 ≤ cntOf a.data.toList p := fun p => (cntOf_le _ p).1
    obtain ⟨-, hs⟩ := (mem_subsAll h0 y).1 hy
    have hty := (sub_len hri hta hs).2.2.2
    have hyl := subsAll_len hy
    refine ⟨mkT (takeR a.data.toList y).1, takeV_yes hp.1 (isPile_of hty hs.1 (by omega)) (by show (takeR a.data.toList y).2.isEmpty = true; rw [h4]; rfl), ?_, ?_⟩
    · rw [h3, ← hl]; exact List.mem_map.2 ⟨_, h5, rfl⟩
    · rw [mkT_size]; have := subsAll_len h5; omega
  · have hi2 : i + 1 < (subsAll (cntOf a.data.toList) a.size).length := by simpa [h3] using hi
    have e : ∀ j (hj : j < (srV a).length), (srV a)[j] = mkT ((subsAll (cntOf a.data.toList) a.size)[j]'(by simpa [h3] using hj)) := fun j hj => by simp [h3]
    rw [e _ (by omega), e _ hi, mkT_size, mkT_size]
    have := (List.pairwise_iff_getElem.1 (subsAll_sorted (cntOf a.data.toList) a.size)) i (i + 1) (by omega) hi2 (by omega)
    rcases this with h5 | ⟨h5, h6⟩
    · exact .inl h5
    · refine .inr ⟨h5.symm, ?_⟩
      rw [ByteArray.toList_eq, ByteArray.toList_eq]; exact h6
end Go.Proofs.Ythpjinfkagllfaa
