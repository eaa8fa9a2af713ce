/- FnSubRacks, plainly: how many sub-racks there are, in which order, and that what is left of each is one of them. No program is walked. -/
import Derived.Test.YthpjinfkagllfaaSuL
import Derived.Test.YthpjinfkagllfaaL
namespace Go.Proofs.Ythpjinfkagllfaa
/-- A sorted pile of tiles from place k on that counts contain. -/
def SubOf (f : Nat → Int) (k : Nat) (x : List UInt8) : Prop := Rises x ∧ (∀ c ∈ x, ∃ p, k ≤ p ∧ p < 27 ∧ c = tileB p) ∧ ∀ p, p < 27 → cntOf x p ≤ f p
theorem tileB_le {p q : Nat} (hp : p < 27) (hq : q < 27) : (tileB p).toNat ≤ (tileB q).toNat ↔ p ≤ q := by
  rw [tileB_toNat p hp, tileB_toNat q hq]
  split <;> split <;> omega
theorem cnt_cons (p q : Nat) (hp : p < 27) (hq : q < 27) (y : List UInt8) : cntOf (tileB p :: y) q = (if q = p then 1 else 0) + cntOf y q := by
  rw [← List.singleton_append, cntOf_append, cnt_single p q hp hq]
theorem mem_subsC : ∀ (n : Nat) (f : Nat → Int) (k : Nat) (x : List UInt8), (∀ p, 0 ≤ f p) → (x ∈ subsC n f k ↔ x.length = n ∧ SubOf f k x)
  | 0, f, k, x, h0 => by
    rw [subsC, List.mem_singleton]
    constructor
    · rintro rfl
      exact ⟨rfl, List.Pairwise.nil, by simp, fun p _ => by rw [cntOf_nil]; exact h0 p⟩
    · exact fun h => List.eq_nil_of_length_eq_zero h.1
  | n + 1, f, k, x, h0 => by
    have hu : ∀ p, f p ≠ 0 → ∀ q, 0 ≤ upd f p (f p - 1) q := fun p hp q => by
      have := h0 p; have := h0 q
      unfold upd; split <;> omega
    rw [subsC, List.mem_flatMap]
    constructor
    · rintro ⟨j, hj, h⟩
      have hj : j < 27 - k := by simpa using hj
      split at h
      · simp at h
      · rename_i hz
        obtain ⟨y, hy, rfl⟩ := List.mem_map.1 h
        obtain ⟨h1, h2, h3, h4⟩ := (mem_subsC n _ _ y (hu _ hz)).1 hy
        refine ⟨by simp [h1], List.pairwise_cons.2 ⟨fun c hc => ?_, h2⟩, fun c hc => ?_, fun q hq => ?_⟩
        · obtain ⟨p, hp1, hp2, rfl⟩ := h3 c hc
          exact (tileB_le (by omega) hp2).2 hp1
        · rcases List.mem_cons.1 hc with rfl | hc
          · exact ⟨k + j, by omega, by omega, rfl⟩
          · obtain ⟨p, hp1, hp2, rfl⟩ := h3 c hc
            exact ⟨p, by omega, hp2, rfl⟩
        · rw [cnt_cons _ q (by omega) hq]
          have := h4 q hq
          unfold upd at this
          split at this
          · rename_i e; subst e; rw [if_pos rfl]; omega
          · rename_i e; rw [if_neg e]; omega
    · rintro ⟨h1, h2, h3, h4⟩
      match x, h1 with
      | c :: y, h1 =>
        obtain ⟨p, hp1, hp2, rfl⟩ := h3 c (List.mem_cons_self ..)
        have hy0 := (cntOf_le y p).1
        have hz : f p ≠ 0 := by
          have := h4 p hp2
          rw [cnt_cons p p hp2 hp2, if_pos rfl] at this
          omega
        obtain ⟨j, rfl⟩ : ∃ j, p = k + j := ⟨p - k, by omega⟩
        refine ⟨j, by simp; omega, ?_⟩
        rw [if_neg hz]
        refine List.mem_map.2 ⟨y, (mem_subsC n _ _ y (hu _ hz)).2 ⟨by simpa using h1, (List.pairwise_cons.1 h2).2, fun c hc => ?_, fun q hq => ?_⟩, rfl⟩
        · obtain ⟨q, hq1, hq2, rfl⟩ := h3 c (List.mem_cons_of_mem _ hc)
          exact ⟨q, (tileB_le hp2 hq2).1 ((List.pairwise_cons.1 h2).1 _ hc), hq2, rfl⟩
        · have := h4 q hq
          rw [cnt_cons _ q hp2 hq] at this
          unfold upd
          split
          · rename_i e; subst e; rw [if_pos rfl] at this; omega
          · rename_i e; rw [if_neg e] at this; omega
theorem bl_cons (a : UInt8) (x y : List UInt8) : Op.bytesLess (a :: x) (a :: y) = Op.bytesLess x y := by
  simp [Op.bytesLess]
theorem bl_head {a b : UInt8} (x y : List UInt8) (h : a.toNat < b.toNat) : Op.bytesLess (a :: x) (b :: y) = true := by
  simp [Op.bytesLess, UInt8.lt_iff_toNat_lt, h]
theorem subsC_sorted : ∀ (n : Nat) (f : Nat → Int) (k : Nat), (subsC n f k).Pairwise fun x y => Op.bytesLess x y = true
  | 0, f, k => by simp [subsC]
  | n + 1, f, k => by
    rw [subsC, List.pairwise_flatMap]
    constructor
    · intro j _
      split
      · exact List.Pairwise.nil
      · exact List.pairwise_map.2 ((subsC_sorted n _ _).imp fun h => by rw [bl_cons]; exact h)
    · refine List.Pairwise.imp_of_mem ?_ List.pairwise_lt_range
      intro i j hi hj hij x hx y hy
      have hi : i < 27 - k := by simpa using hi
      have hj : j < 27 - k := by simpa using hj
      split at hx
      · simp at hx
      · split at hy
        · simp at hy
        · obtain ⟨x', -, rfl⟩ := List.mem_map.1 hx
          obtain ⟨y', -, rfl⟩ := List.mem_map.1 hy
          refine bl_head _ _ ?_
          have h1 := tileB_le (p := k + j) (q := k + i) (by omega) (by omega)
          omega
/-- In which order all of them are. -/
def Ahead (x y : List UInt8) : Prop := x.length < y.length ∨ x.length = y.length ∧ Op.bytesLess x y = true
theorem subsAll_sorted (f : Nat → Int) (N : Nat) : (subsAll f N).Pairwise Ahead := by
  rw [subsAll, List.pairwise_flatMap]
  constructor
  · intro n _
    refine (subsC_sorted n f 0).imp_of_mem fun hx hy h => .inr ⟨?_, h⟩
    rw [subsC_each n f 0 _ hx, subsC_each n f 0 _ hy]
  · refine List.Pairwise.imp ?_ List.pairwise_lt_range
    intro i j hij x hx y hy
    left
    rw [subsC_each i f 0 x hx, subsC_each j f 0 y hy]; exact hij
theorem bl_self (x : List UInt8) : Op.bytesLess x x = false := by
  rcases bl_tri x x with ⟨h1, h2, _⟩ | ⟨h1, _⟩ | ⟨h1, _⟩
  · rw [h1] at h2; cases h2
  · exact h1
  · exact h1
theorem subsAll_nodup (f : Nat → Int) (N : Nat) : (subsAll f N).Nodup := by
  refine (subsAll_sorted f N).imp fun h e => ?_
  subst e
  rcases h with h | ⟨-, h⟩
  · omega
  · rw [bl_self] at h; cases h
theorem mem_subsAll {f : Nat → Int} {N : Nat} (h0 : ∀ p, 0 ≤ f p) (x : List UInt8) : x ∈ subsAll f N ↔ x.length ≤ N ∧ SubOf f 0 x := by
  rw [subsAll, List.mem_flatMap]
  constructor
  · rintro ⟨n, hn, h⟩
    have hn : n < N + 1 := by simpa using hn
    obtain ⟨h1, h2⟩ := (mem_subsC n f 0 x h0).1 h
    exact ⟨by omega, h2⟩
  · rintro ⟨h1, h2⟩
    exact ⟨x.length, by simp; omega, (mem_subsC _ f 0 x h0).2 ⟨rfl, h2⟩⟩
/-! ### how many there are -/
/-- The piles of the last j places, place by place. -/
def allG (f : Nat → Int) : Nat → List (List UInt8)
  | 0 => [[]]
  | j + 1 => (List.range ((f (26 - j)).toNat + 1)).flatMap fun m => (allG f j).map (List.replicate m (tileB (26 - j)) ++ ·)
def prodG (f : Nat → Int) : Nat → Nat
  | 0 => 1
  | j + 1 => ((f (26 - j)).toNat + 1) * prodG f j
theorem allG_len (f : Nat → Int) : ∀ j, (allG f j).length = prodG f j
  | 0 => rfl
  | j + 1 => by
    rw [allG, prodG, List.length_flatMap]
    have : ∀ n, ((List.range n).map fun m => ((allG f j).map (List.replicate m (tileB (26 - j)) ++ ·)).length).sum = n * prodG f j := by
      intro n
      induction n with
      | zero => simp
      | succ n ih => rw [List.range_succ, List.map_append, List.sum_append, ih]; simp [allG_len f j, Nat.add_mul]
    exact this _
theorem cnt_rep (m p q : Nat) (hp : p < 27) (hq : q < 27) : cntOf (List.replicate m (tileB p)) q = if q = p then (m : Int) else 0 := by
  rw [cntOf_count _ q hq, List.count_replicate]
  by_cases h : q = p
  · subst h; simp
  · rw [if_neg h]
    have : (tileB p == tileB q) = false := by rw [beq_eq_false_iff_ne]; exact fun e => h (tileB_inj hp hq e).symm
    rw [this]; rfl
theorem cnt_none {y : List UInt8} {k p : Nat} (h : ∀ c ∈ y, ∃ q, k ≤ q ∧ q < 27 ∧ c = tileB q) (hp : p < k) (hp2 : p < 27) : cntOf y p = 0 := by
  rw [cntOf_count _ p hp2]
  have : y.count (tileB p) = 0 := List.count_eq_zero.2 fun hm => by
    obtain ⟨q, h1, h2, h3⟩ := h _ hm
    have := tileB_inj hp2 h2 h3
    omega
  rw [this]; rfl
theorem mem_allG (f : Nat → Int) (h0 : ∀ p, 0 ≤ f p) : ∀ (j : Nat) (x : List UInt8), j ≤ 27 → (x ∈ allG f j ↔ SubOf f (27 - j) x)
  | 0, x, _ => by
    rw [allG, List.mem_singleton]
    constructor
    · rintro rfl
      exact ⟨List.Pairwise.nil, by simp, fun p _ => by rw [cntOf_nil]; exact h0 p⟩
    · rintro ⟨-, h, -⟩
      cases x with
      | nil => rfl
      | cons c x => obtain ⟨p, h1, h2, -⟩ := h c (List.mem_cons_self ..); omega
  | j + 1, x, hj => by
    have e : 27 - (j + 1) = 26 - j := by omega
    have hp27 : 26 - j < 27 := by omega
    have e2 : 27 - j = 26 - j + 1 := by omega
    rw [allG, List.mem_flatMap, e]
    generalize hp : 26 - j = p at *
    constructor
    · rintro ⟨m, hm, h⟩
      have hm : m < (f p).toNat + 1 := by simpa using hm
      obtain ⟨y, hy, rfl⟩ := List.mem_map.1 h
      obtain ⟨h1, h2, h3⟩ := (mem_allG f h0 j y (by omega)).1 hy
      rw [e2] at h2
      refine ⟨List.pairwise_append.2 ⟨List.pairwise_replicate.2 (.inr (Nat.le_refl _)), h1, fun a ha b hb => ?_⟩, fun c hc => ?_, fun q hq => ?_⟩
      · obtain ⟨-, rfl⟩ := List.mem_replicate.1 ha
        obtain ⟨q, hq1, hq2, rfl⟩ := h2 b hb
        exact (tileB_le hp27 hq2).2 (by omega)
      · rcases List.mem_append.1 hc with hc | hc
        · obtain ⟨-, rfl⟩ := List.mem_replicate.1 hc
          exact ⟨p, Nat.le_refl _, hp27, rfl⟩
        · obtain ⟨q, hq1, hq2, rfl⟩ := h2 c hc
          exact ⟨q, by omega, hq2, rfl⟩
      · rw [cntOf_append, cnt_rep m p q hp27 hq]
        by_cases hqp : q = p
        · subst hqp
          rw [if_pos rfl, cnt_none h2 (by omega) hq]
          have := h0 q; omega
        · rw [if_neg hqp]; have := h3 q hq; omega
    · rintro ⟨h1, h2, h3⟩
      have hm := h3 p hp27
      rw [cntOf_count _ p hp27] at hm
      have hx : x = List.replicate (x.count (tileB p)) (tileB p) ++ x.filter (fun c => !(c == tileB p)) := by
        refine rises_unique h1 (List.pairwise_append.2 ⟨List.pairwise_replicate.2 (.inr (Nat.le_refl _)), rises_sub List.filter_sublist h1, fun a ha b hb => ?_⟩) ?_
        · obtain ⟨-, rfl⟩ := List.mem_replicate.1 ha
          obtain ⟨q, hq1, hq2, rfl⟩ := h2 b (List.mem_filter.1 hb).1
          exact (tileB_le hp27 hq2).2 hq1
        · have e3 : List.replicate (x.count (tileB p)) (tileB p) = x.filter (fun c => c == tileB p) := by
            rw [← List.filter_beq]
          rw [e3]
          exact (List.filter_append_perm (fun c => c == tileB p) x).symm
      refine ⟨x.count (tileB p), by simp; omega, List.mem_map.2 ⟨x.filter (fun c => !(c == tileB p)), (mem_allG f h0 j _ (by omega)).2 ⟨rises_sub List.filter_sublist h1, fun c hc => ?_, fun q hq => ?_⟩, hx.symm⟩⟩
      · obtain ⟨hc1, hc2⟩ := List.mem_filter.1 hc
        obtain ⟨q, hq1, hq2, rfl⟩ := h2 c hc1
        refine ⟨q, ?_, hq2, rfl⟩
        rw [e2]
        have : q ≠ p := fun e => by subst e; simp at hc2
        omega
      · have := h3 q hq
        have hle : cntOf (x.filter (fun c => !(c == tileB p))) q ≤ cntOf x q := by
          rw [cntOf_count _ q hq, cntOf_count _ q hq]
          have := (List.filter_sublist (p := fun c => !(c == tileB p)) (l := x)).count_le (tileB q)
          omega
        omega
theorem allG_nodup (f : Nat → Int) (h0 : ∀ p, 0 ≤ f p) : ∀ j, j ≤ 27 → (allG f j).Nodup
  | 0, _ => by simp [allG]
  | j + 1, hj => by
    rw [allG, List.Nodup, List.pairwise_flatMap]
    constructor
    · intro m _
      exact List.pairwise_map.2 ((allG_nodup f h0 j (by omega)).imp fun h e => h (List.append_cancel_left e))
    · refine List.Pairwise.imp ?_ List.pairwise_lt_range
      intro a b hab x hx y hy e
      obtain ⟨x', hx', rfl⟩ := List.mem_map.1 hx
      obtain ⟨y', hy', rfl⟩ := List.mem_map.1 hy
      have hp27 : 26 - j < 27 := by omega
      have c1 := cnt_none (p := 26 - j) ((mem_allG f h0 j x' (by omega)).1 hx').2.1 (by omega) hp27
      have c2 := cnt_none (p := 26 - j) ((mem_allG f h0 j y' (by omega)).1 hy').2.1 (by omega) hp27
      have := congrArg (fun l => cntOf l (26 - j)) e
      simp only [cntOf_append, cnt_rep _ _ _ hp27 hp27, if_true, c1, c2] at this
      omega
theorem sub_len {a x : List UInt8} (ha : Rises a) (ta : tileAll a = true) (h : SubOf (cntOf a) 0 x) : (takeR a x).2 = [] ∧ (takeR a x).1 = pileOf (subC (cntOf a) (cntOf x)) ∧ x.length ≤ a.length ∧ tileAll x = true := by
  have tx : tileAll x = true := tileAll_of fun c hc => by obtain ⟨p, -, hp, rfl⟩ := h.2.1 c hc; exact tileB_tile p hp
  obtain ⟨h1, h2⟩ := takeR_ok ha h.1 ta tx fun p hp => h.2.2 p hp
  refine ⟨h1, h2, ?_, tx⟩
  obtain ⟨u, h3, h4⟩ := takeR_used a x
  rw [h1, List.append_nil] at h3
  subst h3
  have := h4.length_eq
  simp at this; omega
theorem subsAll_count {a : List UInt8} (ha : Rises a) (ta : tileAll a = true) : (subsAll (cntOf a) a.length).length = prodG (cntOf a) 27 := by
  have h0 : ∀ p, 0 ≤ cntOf a p := fun p => (cntOf_le a p).1
  rw [← allG_len]
  refine List.Perm.length_eq ((List.perm_ext_iff_of_nodup (subsAll_nodup _ _) (allG_nodup _ h0 27 (Nat.le_refl _))).2 fun x => ?_)
  rw [mem_subsAll h0, mem_allG _ h0 27 x (Nat.le_refl _)]
  exact ⟨fun h => h.2, fun h => ⟨(sub_len ha ta h).2.2.1, h⟩⟩
/-- What is left is one of them. -/
theorem subsAll_rest {a x : List UInt8} (ha : Rises a) (ta : tileAll a = true) (hx : x ∈ subsAll (cntOf a) a.length) : (takeR a x).2 = [] ∧ (takeR a x).1 ∈ subsAll (cntOf a) a.length := by
  have h0 : ∀ p, 0 ≤ cntOf a p := fun p => (cntOf_le a p).1
  obtain ⟨-, hs⟩ := (mem_subsAll h0 x).1 hx
  obtain ⟨h1, h2, h3, h4⟩ := sub_len ha ta hs
  refine ⟨h1, ?_⟩
  rw [mem_subsAll h0]
  have hsub := takeR_sub a x
  refine ⟨hsub.length_le, rises_sub hsub ha, fun c hc => ?_, fun p hp => ?_⟩
  · obtain ⟨p, hp, rfl⟩ := tileAll_mem ta (hsub.subset hc)
    exact ⟨p, by omega, hp, rfl⟩
  · rw [cntOf_count _ p hp, cntOf_count _ p hp]
    have := hsub.count_le (tileB p)
    omega
def prodTo (f : Nat → Int) : Nat → Nat
  | 0 => 1
  | p + 1 => prodTo f p * ((f p).toNat + 1)
theorem prod_eq (f : Nat → Int) : ∀ j, j ≤ 27 → prodTo f (27 - j) * prodG f j = prodTo f 27
  | 0, _ => by simp [prodG]
  | j + 1, hj => by
    have ih := prod_eq f j (by omega)
    rw [← ih, prodG, ← Nat.mul_assoc, show 27 - j = 26 - j + 1 by omega, show 27 - (j + 1) = 26 - j by omega, prodTo]
theorem prod_all (f : Nat → Int) : prodG f 27 = prodTo f 27 := by
  have := prod_eq f 27 (Nat.le_refl _)
  rw [← this]; simp [prodTo]
theorem prodTo_le (f : Nat → Int) : ∀ p, prodTo f p ≤ 2 ^ (pileTo f p).length
  | 0 => by simp [prodTo, pileTo]
  | p + 1 => by
    rw [prodTo, pileTo_succ, List.length_append, List.length_replicate, Nat.pow_add]
    refine Nat.mul_le_mul (prodTo_le f p) ?_
    generalize (f p).toNat = n
    induction n with
    | zero => simp
    | succ n ih => rw [Nat.pow_succ]; omega
end Go.Proofs.Ythpjinfkagllfaa
