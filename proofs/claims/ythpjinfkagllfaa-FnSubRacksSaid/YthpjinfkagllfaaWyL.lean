/- WaysToMake, plainly: the ways to place letters with counts of tiles, and with a pile. No program is walked. -/
import Derived.Test.YthpjinfkagllfaaM
namespace Go.Proofs.Ythpjinfkagllfaa
/-- A small letter as a capital one. -/
def capB (c : UInt8) : UInt8 := c - 97 + 65
/-- The ways to place letters with counts of tiles: a blank first. -/
def waysC : (Nat → Int) → List UInt8 → List (List UInt8)
  | _, [] => [[]]
  | f, c :: r => (if f 0 = 0 then [] else (waysC (upd f 0 (f 0 - 1)) r).map (capB c :: ·)) ++
      (if f (placeI c.toNat).toNat = 0 then [] else (waysC (upd f (placeI c.toNat).toNat (f (placeI c.toNat).toNat - 1)) r).map (c :: ·))
/-- The same with a pile. -/
def waysP : List UInt8 → List UInt8 → List (List UInt8)
  | _, [] => [[]]
  | a, c :: r => (if (takeR a [63]).2.isEmpty then (waysP (takeR a [63]).1 r).map (capB c :: ·) else []) ++
      (if (takeR a [c]).2.isEmpty then (waysP (takeR a [c]).1 r).map (c :: ·) else [])
theorem waysC_congr : ∀ (l : List UInt8) (f g : Nat → Int), tileAll l = true → (∀ p, p < 27 → f p = g p) → waysC f l = waysC g l
  | [], _, _, _, _ => rfl
  | c :: r, f, g, ht, h => by
    have hc : tileI c.toNat = true := by simp [tileAll] at ht; exact ht.1
    have hr : tileAll r = true := by simp [tileAll] at ht ⊢; exact ht.2
    obtain ⟨p, hp, hp2⟩ := placeI_nat hc
    have hu : ∀ q, q < 27 → waysC (upd f q (f q - 1)) r = waysC (upd g q (f q - 1)) r := fun q hq => waysC_congr r _ _ hr fun k hk => by
      unfold upd; split
      · rfl
      · exact h k hk
    simp only [waysC, hp, Int.toNat_natCast, ← h p hp2, ← h 0 (by omega), hu p hp2, hu 0 (by omega)]
theorem cnt_one (p q : Nat) (hp : p < 27) (hq : q < 27) : cntOf [tileB p] q = if q = p then 1 else 0 := by
  rw [cntOf_count _ q hq, List.count_singleton]
  by_cases h : q = p
  · subst h; simp
  · rw [if_neg h]
    have : (tileB p == tileB q) = false := by rw [beq_eq_false_iff_ne]; exact fun e => h (tileB_inj hp hq e).symm
    rw [this]; rfl
theorem take_one {a : List UInt8} (ha : Rises a) (ta : tileAll a = true) {p : Nat} (hp : p < 27) :
    ((takeR a [tileB p]).2.isEmpty = !decide (cntOf a p = 0)) ∧ (cntOf a p ≠ 0 → ∀ q, q < 27 → cntOf (takeR a [tileB p]).1 q = upd (cntOf a) p (cntOf a p - 1) q) := by
  have tb : tileAll [tileB p] = true := by simp [tileAll, tileB_tile p hp]
  have h0 := cntOf_le a p
  by_cases hz : cntOf a p = 0
  · refine ⟨?_, fun h => absurd hz h⟩
    rw [decide_eq_true hz]
    have := takeR_no ta tb (fun h => by have h1 := h p hp; rw [cnt_one p p hp hp, if_pos rfl] at h1; omega)
    cases h : (takeR a [tileB p]).2
    · exact absurd h this
    · rfl
  · have hg : geTo (cntOf a) (cntOf [tileB p]) 27 := fun q hq => by
      rw [cnt_one p q hp hq]
      have := cntOf_le a q
      split
      · rename_i e; subst e; omega
      · omega
    obtain ⟨h1, h2⟩ := takeR_ok ha (by simp [Rises]) ta tb hg
    refine ⟨by rw [h1, decide_eq_false hz]; rfl, fun _ q hq => ?_⟩
    rw [h2, cntOf_pileOf _ q hq (by have := hg q hq; unfold subC; omega)]
    unfold subC upd
    rw [cnt_one p q hp hq]
    split
    · rename_i e; subst e; rfl
    · omega
theorem small_tile {c : UInt8} (h : smallI c.toNat = true) : ∃ p : Nat, p < 27 ∧ placeI c.toNat = p ∧ c = tileB p := by
  obtain ⟨p, hp, hp2⟩ := placeI_nat (show tileI c.toNat = true by simp [tileI, h])
  exact ⟨p, hp2, hp, (placeI_iff c p hp2).1 hp⟩
theorem smallAll_tail {c : UInt8} {r : List UInt8} (h : smallAll (c :: r) = true) : smallI c.toNat = true ∧ smallAll r = true := by
  simpa [smallAll] using h
theorem small_tiles {l : List UInt8} (h : smallAll l = true) : tileAll l = true := tileAll_of fun c hc => by
  unfold smallAll at h; rw [List.all_eq_true] at h; simp [tileI, h c hc]
theorem waysP_eq : ∀ (l a : List UInt8), Rises a → tileAll a = true → smallAll l = true → waysP a l = waysC (cntOf a) l
  | [], _, _, _, _ => rfl
  | c :: r, a, ha, ta, hl => by
    obtain ⟨hc, hr⟩ := smallAll_tail hl
    obtain ⟨p, hp, hpl, rfl⟩ := small_tile hc
    have key : ∀ q, q < 27 → cntOf a q ≠ 0 → waysP (takeR a [tileB q]).1 r = waysC (upd (cntOf a) q (cntOf a q - 1)) r := fun q hq hz => by
      rw [waysP_eq r _ (rises_sub (takeR_sub _ _) ha) (tiles_sub (takeR_sub _ _) ta) hr]
      exact waysC_congr r _ _ (small_tiles hr) ((take_one ha ta hq).2 hz)
    have e0 : (63 : UInt8) = tileB 0 := rfl
    simp only [waysP, waysC]
    rw [hpl, Int.toNat_natCast, e0, (take_one ha ta (p := 0) (by omega)).1, (take_one ha ta hp).1]
    congr 1
    · by_cases hz : cntOf a 0 = 0
      · simp [hz]
      · simp only [hz, decide_false, Bool.not_false, if_true, if_false]
        rw [key 0 (by omega) hz]
    · by_cases hz : cntOf a p = 0
      · simp [hz]
      · simp only [hz, decide_false, Bool.not_false, if_true, if_false]
        rw [key p hp hz]
theorem waysC_len : ∀ (l : List UInt8) (f : Nat → Int), (waysC f l).length ≤ 2 ^ l.length
  | [], _ => by simp [waysC]
  | c :: r, f => by
    have h1 := waysC_len r (upd f 0 (f 0 - 1))
    have h2 := waysC_len r (upd f (placeI c.toNat).toNat (f (placeI c.toNat).toNat - 1))
    simp only [waysC, List.length_append, List.length_cons, Nat.pow_succ]
    split <;> split <;> simp <;> omega
theorem waysC_each : ∀ (l : List UInt8) (f : Nat → Int), ∀ x ∈ waysC f l, x.length = l.length
  | [], _, x, h => by simp [waysC] at h; simp [h]
  | c :: r, f, x, h => by
    simp only [waysC, List.mem_append] at h
    rcases h with h | h
    all_goals
      split at h
      · simp at h
      · obtain ⟨y, hy, rfl⟩ := List.mem_map.1 h
        simp [waysC_each r _ y hy]
theorem waysP_len (a l : List UInt8) (ha : Rises a) (ta : tileAll a = true) (hl : smallAll l = true) : (waysP a l).length ≤ 2 ^ l.length := by rw [waysP_eq l a ha ta hl]; exact waysC_len l _
def mkS (l : List UInt8) : ByteArray := ⟨l.toArray⟩
/-- What WaysToMake comes to. -/
def wyV (a s : ByteArray) : List ByteArray := if isPile a && isWord s && decide (needR (cntOf a.data.toList) s.data.toList ≤ cntOf a.data.toList 0) then (waysC (cntOf a.data.toList) s.data.toList).map mkS else []
def wyE (a s : ByteArray) : Int := if isPile a then (if isWord s then 0 else 7) else 1
theorem wyV_len (a s : ByteArray) : (wyV a s).length ≤ 1048576 := by
  unfold wyV
  split
  · rename_i h
    simp only [isWord, inI, Bool.and_eq_true, decide_eq_true_eq] at h
    have h1 := waysC_len s.data.toList (cntOf a.data.toList)
    have h2 : 2 ^ s.data.toList.length ≤ 2 ^ 12 := Nat.pow_le_pow_right (by omega) (by simp; omega)
    simp only [List.length_map]
    omega
  · simp
end Go.Proofs.Ythpjinfkagllfaa
