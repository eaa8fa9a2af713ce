/- SubRacks, plainly: the piles that counts contain, and those of a sorted list; both are the same, in the same order. No program is walked. -/
import Derived.Test.YthpjinfkagllfaaM
namespace Go.Proofs.Ythpjinfkagllfaa
/-- The piles of n tiles from place k on that counts contain, in ascending order. -/
def subsC : Nat → (Nat → Int) → Nat → List (List UInt8)
  | 0, _, _ => [[]]
  | n + 1, f, k => (List.range (27 - k)).flatMap fun j => if f (k + j) = 0 then [] else (subsC n (upd f (k + j) (f (k + j) - 1)) (k + j)).map (tileB (k + j) :: ·)
/-- Is an element equal to the one ahead of it? -/
def dupAt (l : List UInt8) (i : Nat) : Bool := decide (0 < i) && l.getD i 0 == l.getD (i - 1) 0
/-- The same of a sorted list. -/
def subsP : Nat → List UInt8 → List (List UInt8)
  | 0, _ => [[]]
  | n + 1, l => (List.range (l.length - n)).flatMap fun i => if dupAt l i then [] else (subsP n (l.drop (i + 1))).map (l.getD i 0 :: ·)
theorem subsP_short : ∀ (n : Nat) (l : List UInt8), l.length < n → subsP n l = []
  | 0, _, h => by omega
  | n + 1, l, h => by rw [subsP, show l.length - n = 0 by omega]; rfl
theorem subsC_congr : ∀ (n : Nat) (f g : Nat → Int) (k : Nat), (∀ q, k ≤ q → q < 27 → f q = g q) → subsC n f k = subsC n g k
  | 0, _, _, _, _ => rfl
  | n + 1, f, g, k, h => by
    rw [subsC, subsC, List.flatMap_def, List.flatMap_def]
    congr 1
    refine List.map_congr_left fun j hj => ?_
    have hj : j < 27 - k := by simpa using hj
    have e := h (k + j) (by omega) (by omega)
    rw [← e, subsC_congr n (upd f (k + j) (f (k + j) - 1)) (upd g (k + j) (f (k + j) - 1)) (k + j) fun q h1 h2 => ?_]
    unfold upd; split
    · rfl
    · exact h q (by omega) h2
theorem flatMap_range_ext {α : Type} (F : Nat → List α) (a b : Nat) (hab : a ≤ b) (h : ∀ i, a ≤ i → i < b → F i = []) : (List.range a).flatMap F = (List.range b).flatMap F := by
  obtain ⟨d, rfl⟩ := Nat.exists_eq_add_of_le hab
  rw [List.range_add, List.flatMap_append]
  have : (List.map (a + ·) (List.range d)).flatMap F = [] := by
    rw [List.flatMap_eq_nil_iff]
    intro x hx
    obtain ⟨j, hj, rfl⟩ := List.mem_map.1 hx
    exact h _ (by omega) (by have : j < d := (by simpa using hj); omega)
  rw [this, List.append_nil]
theorem pileTo_split (g : Nat → Int) (p q : Nat) (h : p ≤ q) : ∃ t, pileTo g q = pileTo g p ++ t := by
  obtain ⟨d, rfl⟩ := Nat.exists_eq_add_of_le h
  induction d with
  | zero => exact ⟨[], by simp⟩
  | succ d ih =>
    obtain ⟨t, ht⟩ := ih (by omega)
    exact ⟨t ++ List.replicate (g (p + d)).toNat (tileB (p + d)), by rw [← Nat.add_assoc, pileTo_succ, ht, List.append_assoc]⟩
theorem cnt_pileTo (g : Nat → Int) (p q : Nat) (hp : p ≤ 27) (hq : q < 27) (h0 : 0 ≤ g q) : cntOf (pileTo g p) q = if q < p then g q else 0 := by
  rw [cntOf_count _ q hq, count_pileTo g q hq p hp]
  split
  · omega
  · rfl
theorem cnt_single (p q : Nat) (hp : p < 27) (hq : q < 27) : cntOf [tileB p] q = if q = p then 1 else 0 := by
  rw [cntOf_count _ q hq, List.count_singleton]
  by_cases h : q = p
  · subst h; simp
  · rw [if_neg h]
    have : (tileB p == tileB q) = false := by rw [beq_eq_false_iff_ne]; exact fun e => h (tileB_inj hp hq e).symm
    rw [this]; rfl
theorem subs_eq : ∀ (n : Nat) (l : List UInt8) (f : Nat → Int) (k : Nat), Rises l → tileAll l = true → k ≤ 27 → (∀ q, k ≤ q → q < 27 → cntOf l q = f q) → (∀ q, q < k → cntOf l q = 0) → subsP n l = subsC n f k
  | 0, _, _, _, _, _, _, _, _ => rfl
  | n + 1, l, f, k, hr, ht, hk, hf, h0 => by
    have hl : pileTo (cntOf l) 27 = l := pile_self hr ht
    rw [← subsC_congr (n + 1) (cntOf l) f k hf, subsP, subsC]
    rw [flatMap_range_ext _ (l.length - n) l.length (by omega) fun i h1 h2 => by
      split
      · rfl
      · rw [subsP_short n _ (by simp; omega)]; rfl]
    have main : ∀ j, j ≤ 27 - k → (List.range (pileTo (cntOf l) (k + j)).length).flatMap (fun i => if dupAt l i then [] else (subsP n (l.drop (i + 1))).map (l.getD i 0 :: ·)) =
        (List.range j).flatMap fun j => if cntOf l (k + j) = 0 then [] else (subsC n (upd (cntOf l) (k + j) (cntOf l (k + j) - 1)) (k + j)).map (tileB (k + j) :: ·) := by
      intro j
      induction j with
      | zero =>
        intro _
        have : (pileTo (cntOf l) k) = [] := by
          cases hp : pileTo (cntOf l) k with
          | nil => rfl
          | cons c r =>
            obtain ⟨p, hp1, -, hp3⟩ := pileTo_mem (f := cntOf l) hk (c := c) (by rw [hp]; exact List.mem_cons_self ..)
            have := h0 p hp1
            omega
        rw [Nat.add_zero, this]; rfl
      | succ j ih =>
        intro hj
        have ih := ih (by omega)
        rw [List.range_succ (n := j), List.flatMap_append, ← ih, ← Nat.add_assoc, pileTo_succ, List.length_append, List.length_replicate, List.range_add, List.flatMap_append]
        congr 1
        generalize hpk : k + j = p at *
        have hp27 : p < 27 := by omega
        have hc0 := (cntOf_le l p).1
        obtain ⟨t, ht2⟩ := pileTo_split (cntOf l) (p + 1) 27 (by omega)
        rw [hl, pileTo_succ] at ht2
        generalize hm : (pileTo (cntOf l) p).length = m at *
        rw [List.flatMap_cons, List.flatMap_nil, List.append_nil]
        simp only [hpk]
        by_cases hz : cntOf l p = 0
        · rw [if_pos hz, hz]; rfl
        · rw [if_neg hz]
          obtain ⟨c, hc⟩ : ∃ c, (cntOf l p).toNat = c + 1 := ⟨(cntOf l p).toNat - 1, by omega⟩
          rw [hc] at ht2 ⊢
          have hget : ∀ i, i < c + 1 → l.getD (m + i) 0 = tileB p := fun i hi => by
            rw [ht2, List.append_assoc, List.getD_eq_getElem?_getD, List.getElem?_append_right (by omega), hm, Nat.add_sub_cancel_left, List.getElem?_append_left (by simpa using hi), List.getElem?_replicate, if_pos hi]; rfl
          have hnd : dupAt l m = false := by
            unfold dupAt
            by_cases hm0 : 0 < m
            · rw [decide_eq_true hm0, Bool.true_and, beq_eq_false_iff_ne]
              have e := hget 0 (by omega)
              rw [Nat.add_zero] at e
              rw [e]
              have hlt : m - 1 < (pileTo (cntOf l) p).length := by omega
              have e2 : l.getD (m - 1) 0 = (pileTo (cntOf l) p)[m - 1] := by
                have e3 : l[m - 1]? = (pileTo (cntOf l) p)[m - 1]? := by
                  conv => lhs; rw [ht2]
                  rw [List.append_assoc, List.getElem?_append_left hlt]
                rw [List.getD_eq_getElem?_getD, e3, List.getElem?_eq_getElem hlt]; rfl
              obtain ⟨q, hq1, hq2, -⟩ := pileTo_mem (f := cntOf l) (show p ≤ 27 by omega) (List.getElem_mem hlt)
              rw [e2, hq2]
              exact fun e => by have := tileB_inj hp27 (by omega) e; omega
            · rw [decide_eq_false hm0]; rfl
          rw [List.range_succ_eq_map, List.map_cons, List.flatMap_cons, Nat.add_zero, hnd]
          have hrest : (List.map (fun x => m + x) (List.map Nat.succ (List.range c))).flatMap (fun i => if dupAt l i then [] else (subsP n (l.drop (i + 1))).map (l.getD i 0 :: ·)) = [] := by
            rw [List.flatMap_eq_nil_iff]
            intro x hx
            obtain ⟨y, hy, rfl⟩ := List.mem_map.1 hx
            obtain ⟨z, hz, rfl⟩ := List.mem_map.1 hy
            have hz : z < c := by simpa using hz
            have : dupAt l (m + z.succ) = true := by
              unfold dupAt
              rw [decide_eq_true (by omega), Bool.true_and, show m + z.succ - 1 = m + z by omega, hget _ (by omega), hget _ (by omega), beq_self_eq_true]
            rw [if_pos this]
          rw [hrest, List.append_nil]
          have e := hget 0 (by omega)
          rw [Nat.add_zero] at e
          rw [if_neg (by simp), e]
          congr 1
          have hspl : l = (pileTo (cntOf l) p ++ [tileB p]) ++ l.drop (m + 1) := by
            have : l.take (m + 1) = pileTo (cntOf l) p ++ [tileB p] := by
              conv => lhs; rw [ht2]
              rw [List.append_assoc, List.take_append, hm, show m + 1 - m = 1 by omega, List.take_of_length_le (by omega), List.replicate_succ]
              rfl
            rw [← this, List.take_append_drop]
          have hcn : ∀ q, q < 27 → cntOf l q = (if q < p then cntOf l q else 0) + (if q = p then 1 else 0) + cntOf (l.drop (m + 1)) q := fun q hq => by
            conv => lhs; rw [hspl]
            rw [cntOf_append, cntOf_append, cnt_pileTo _ p q (by omega) hq (cntOf_le l q).1, cnt_single p q hp27 hq]
          refine subs_eq n _ _ p (rises_sub (List.drop_sublist _ _) hr) (tiles_sub (List.drop_sublist _ _) ht) (by omega) (fun q h1 h2 => ?_) (fun q h1 => ?_)
          · have := hcn q h2
            rw [if_neg (by omega)] at this
            unfold upd
            split
            · rename_i e; subst e; rw [if_pos rfl] at this; omega
            · rename_i e; rw [if_neg e] at this; omega
          · have := hcn q (by omega)
            rw [if_pos h1, if_neg (by omega)] at this
            omega
    have fin := main (27 - k) (Nat.le_refl _)
    rw [show k + (27 - k) = 27 by omega, hl] at fin
    exact fin
theorem subsC_each : ∀ (n : Nat) (f : Nat → Int) (k : Nat), ∀ x ∈ subsC n f k, x.length = n
  | 0, _, _, x, h => by simp [subsC] at h; simp [h]
  | n + 1, f, k, x, h => by
    rw [subsC, List.mem_flatMap] at h
    obtain ⟨j, -, h⟩ := h
    split at h
    · simp at h
    · obtain ⟨y, hy, rfl⟩ := List.mem_map.1 h
      simp [subsC_each n _ _ y hy]
/-- All of them, the small ones first. -/
def subsAll (f : Nat → Int) (N : Nat) : List (List UInt8) := (List.range (N + 1)).flatMap fun n => subsC n f 0
def mkT (l : List UInt8) : ByteArray := ⟨l.toArray⟩
def isRack (s : ByteArray) : Bool := isPile s && decide (s.size ≤ 7)
/-- What SubRacks comes to. -/
def srV (a : ByteArray) : List ByteArray := if isRack a then (subsAll (cntOf a.data.toList) a.size).map mkT else []
def srE (a : ByteArray) : Int := if isRack a then 0 else 1
end Go.Proofs.Ythpjinfkagllfaa
