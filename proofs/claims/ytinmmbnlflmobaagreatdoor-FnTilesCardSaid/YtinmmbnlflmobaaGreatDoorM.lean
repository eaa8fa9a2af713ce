/- Plain definitions and laws on bytes, words, names and piles; no program. -/
import Init
namespace Go.Proofs.YtinmmbnlflmobaaGreatDoor

def smallI (c : Int) : Bool := decide (97 ≤ c) && decide (c ≤ 122)
def capI (c : Int) : Bool := decide (65 ≤ c) && decide (c ≤ 90)
def digI (c : Int) : Bool := decide (48 ≤ c) && decide (c ≤ 57)
def inI (n low high : Int) : Bool := decide (low ≤ n) && decide (n ≤ high)
def tileI (c : Int) : Bool := decide (c = 63) || smallI c
def placeI (c : Int) : Int := if c = 63 then 0 else if smallI c then c - 96 else -1
def smallAll (l : List UInt8) : Bool := l.all fun c => smallI c.toNat
def tileAll (l : List UInt8) : Bool := l.all fun c => tileI c.toNat
def nameI (c : Int) : Bool := smallI c || digI c || decide (c = 45)
def nameAll (l : List UInt8) : Bool := l.all fun c => nameI c.toNat
def isWord (s : ByteArray) : Bool := smallAll s.data.toList && inI s.size 1 12
def isLong (s : ByteArray) : Bool := isWord s && decide (2 ≤ s.size)
def isName (s : ByteArray) : Bool := nameAll s.data.toList && inI s.size 1 12 && smallI ((s.data.toList.headD 0).toNat)
def sortedB : List UInt8 → Bool
  | a :: b :: r => decide (a.toNat ≤ b.toNat) && sortedB (b :: r)
  | _ => true
def isPile (s : ByteArray) : Bool := tileAll s.data.toList && sortedB s.data.toList && decide (s.size ≤ 120)

theorem sortedB_snoc : ∀ (l : List UInt8) (x y : UInt8), sortedB (l ++ [x, y]) = (sortedB (l ++ [x]) && decide (x.toNat ≤ y.toNat))
  | [], x, y => by simp [sortedB]
  | [a], x, y => by simp [sortedB]
  | a :: b :: r, x, y => by
    have := sortedB_snoc (b :: r) x y
    simp only [List.cons_append] at this
    simp [sortedB, this, Bool.and_assoc]
theorem sortedB_of_take : ∀ (n : Nat) (l : List UInt8) (k : Nat), l.length - k ≤ n → sortedB (l.take k) = false → sortedB l = false
  | 0, l, k, h, h' => by rwa [List.take_of_length_le (by omega)] at h'
  | n + 1, l, k, h, h' => by
    by_cases hk : k < l.length
    · refine sortedB_of_take n l (k + 1) (by omega) ?_
      match k, hk, h' with
      | 0, _, h' => simp [sortedB] at h'
      | j + 1, hk, h' =>
        rw [List.take_succ_eq_append_getElem hk, List.take_succ_eq_append_getElem (by omega), List.append_assoc]
        rw [List.take_succ_eq_append_getElem (by omega)] at h'
        show sortedB (List.take j l ++ [l[j], l[j+1]]) = false
        rw [sortedB_snoc, h']; rfl
    · rwa [List.take_of_length_le (by omega)] at h'

theorem placeI_tile {c : Int} (h : tileI c = true) : 0 ≤ placeI c ∧ placeI c ≤ 26 := by
  unfold placeI
  by_cases h1 : c = 63
  · simp [h1]
  · have h2 : smallI c = true := by simpa [tileI, h1] using h
    rw [if_neg h1, if_pos h2]
    have : 97 ≤ c ∧ c ≤ 122 := by simpa [smallI] using h2
    omega
theorem placeI_none {c : Int} (h : tileI c = false) : placeI c = -1 := by
  unfold placeI
  have : c ≠ 63 ∧ smallI c = false := by simpa [tileI] using h
  rw [if_neg this.1, this.2]; simp
theorem byte_range (c : UInt8) : 0 ≤ (c.toNat : Int) ∧ (c.toNat : Int) ≤ 255 := ⟨by omega, by have := c.toNat_lt; omega⟩

/-- Counts with one place changed. -/
def upd (f : Nat → Int) (p : Nat) (n : Int) : Nat → Int := fun k => if k = p then n else f k
/-- How often a place is there. -/
def cntOf (l : List UInt8) (k : Nat) : Int := ((l.filter fun c => placeI c.toNat == (k : Int)).length : Int)
theorem cntOf_nil : cntOf [] = fun _ => 0 := by funext k; simp [cntOf]
theorem cntOf_le (l : List UInt8) (k : Nat) : 0 ≤ cntOf l k ∧ cntOf l k ≤ l.length := by
  unfold cntOf; exact ⟨by omega, by have := List.length_filter_le (fun c : UInt8 => placeI c.toNat == (k : Int)) l; omega⟩
theorem cntOf_snoc (l : List UInt8) (c : UInt8) (p : Nat) (h : placeI c.toNat = p) : cntOf (l ++ [c]) = upd (cntOf l) p (cntOf l p + 1) := by
  funext k
  unfold cntOf upd
  rw [List.filter_append]
  by_cases hk : k = p
  · subst hk; simp [h]
  · have : ((placeI c.toNat) == (k : Int)) = false := by rw [h]; simp; omega
    simp [this, hk]

theorem placeI_nat {c : Int} (h : tileI c = true) : ∃ p : Nat, placeI c = p ∧ p < 27 := by
  have := placeI_tile h
  exact ⟨(placeI c).toNat, by omega, by omega⟩
/-- The tile of a place. -/
def tileB (k : Nat) : UInt8 := if k = 0 then 63 else UInt8.ofNat (96 + k)
/-- The pile with these counts, up to a place. -/
def pileTo (f : Nat → Int) (k : Nat) : List UInt8 := (List.range k).flatMap fun j => List.replicate (f j).toNat (tileB j)
def pileOf (f : Nat → Int) : List UInt8 := pileTo f 27
theorem pileTo_succ (f : Nat → Int) (k : Nat) : pileTo f (k + 1) = pileTo f k ++ List.replicate (f k).toNat (tileB k) := by
  simp [pileTo, List.range_succ]
theorem pileTo_len (f : Nat → Int) (k : Nat) (h : ∀ j, j < k → f j ≤ 2097152) : (pileTo f k).length ≤ k * 2097152 := by
  induction k with
  | zero => simp [pileTo]
  | succ k ih =>
    rw [pileTo_succ]
    have := ih (fun j hj => h j (by omega))
    have := h k (by omega)
    simp; omega


/-! ### Sorted piles -/
def Rises (l : List UInt8) : Prop := l.Pairwise fun a b => a.toNat ≤ b.toNat
theorem sortedB_iff : ∀ l : List UInt8, sortedB l = true ↔ Rises l
  | [] => by simp [sortedB, Rises]
  | [a] => by simp [sortedB, Rises]
  | a :: b :: r => by
    have ih := sortedB_iff (b :: r)
    unfold Rises at ih ⊢
    rw [sortedB, Bool.and_eq_true, ih, decide_eq_true_iff]
    constructor
    · intro ⟨h1, h2⟩
      refine List.pairwise_cons.2 ⟨?_, h2⟩
      intro c hc
      rcases List.mem_cons.1 hc with rfl | hc
      · exact h1
      · exact Nat.le_trans h1 ((List.pairwise_cons.1 h2).1 c hc)
    · intro h
      have h' := List.pairwise_cons.1 h
      exact ⟨h'.1 b (by simp), h'.2⟩

theorem tileB_toNat (p : Nat) (h : p < 27) : (tileB p).toNat = if p = 0 then 63 else 96 + p := by
  unfold tileB
  split
  · rfl
  · simp; omega
theorem placeI_iff (c : UInt8) (p : Nat) (h : p < 27) : placeI c.toNat = p ↔ c = tileB p := by
  rw [← UInt8.toNat_inj, tileB_toNat p h]
  unfold placeI smallI
  have := c.toNat_lt
  by_cases h1 : (c.toNat : Int) = 63
  · rw [if_pos h1]
    split <;> omega
  · rw [if_neg h1]
    by_cases h2 : (97 : Int) ≤ c.toNat ∧ (c.toNat : Int) ≤ 122
    · rw [if_pos (by simpa using h2)]; split <;> omega
    · rw [if_neg (by simpa using h2)]; split <;> omega
theorem tile_iff (c : UInt8) : tileI c.toNat = true ↔ ∃ p, p < 27 ∧ c = tileB p := by
  constructor
  · intro h
    obtain ⟨p, hp, hp2⟩ := placeI_nat h
    exact ⟨p, hp2, (placeI_iff c p hp2).1 hp⟩
  · intro ⟨p, hp, hc⟩
    have h := (placeI_iff c p hp).2 hc
    cases ht : tileI c.toNat with
    | true => rfl
    | false => rw [placeI_none ht] at h; omega
theorem tileB_tile (p : Nat) (h : p < 27) : tileI (tileB p).toNat = true := (tile_iff _).2 ⟨p, h, rfl⟩
theorem tileB_inj {p q : Nat} (hp : p < 27) (hq : q < 27) (h : tileB p = tileB q) : p = q := by
  have h1 := (placeI_iff (tileB p) p hp).2 rfl
  have h2 := (placeI_iff (tileB p) q hq).2 h
  omega

theorem count_pileTo (f : Nat → Int) (p : Nat) (hp : p < 27) (k : Nat) (hk : k ≤ 27) : (pileTo f k).count (tileB p) = if p < k then (f p).toNat else 0 := by
  induction k with
  | zero => simp [pileTo]
  | succ k ih =>
    rw [pileTo_succ, List.count_append, ih (by omega), List.count_replicate]
    by_cases h : p = k
    · subst h; simp
    · have h2 : (tileB k == tileB p) = false := by
        rw [beq_eq_false_iff_ne]; intro h3; exact h (tileB_inj hp (by omega) h3.symm)
      rw [h2]
      by_cases h4 : p < k
      · simp [h4, show p < k + 1 by omega]
      · simp [h4, show ¬ p < k + 1 by omega]
theorem count_pileOf (f : Nat → Int) (p : Nat) (hp : p < 27) : (pileOf f).count (tileB p) = (f p).toNat := by
  rw [pileOf, count_pileTo f p hp 27 (Nat.le_refl _), if_pos hp]
theorem cntOf_count (l : List UInt8) (p : Nat) (hp : p < 27) : cntOf l p = l.count (tileB p) := by
  unfold cntOf
  rw [List.count_eq_length_filter]
  congr 2
  apply List.filter_congr
  intro c _
  rw [Bool.eq_iff_iff, beq_iff_eq, beq_iff_eq]
  exact placeI_iff c p hp
theorem pileTo_mem {f : Nat → Int} {k : Nat} (_hk : k ≤ 27) {c : UInt8} (h : c ∈ pileTo f k) : ∃ p, p < k ∧ c = tileB p ∧ 0 < f p := by
  unfold pileTo at h
  rw [List.mem_flatMap] at h
  obtain ⟨p, hp, hc⟩ := h
  obtain ⟨h1, h2⟩ := List.mem_replicate.1 hc
  exact ⟨p, by simpa using hp, h2, by omega⟩
theorem pileOf_tiles (f : Nat → Int) : tileAll (pileOf f) = true := by
  unfold tileAll
  rw [List.all_eq_true]
  intro c hc
  obtain ⟨p, hp, rfl, _⟩ := pileTo_mem (Nat.le_refl _) hc
  exact tileB_tile p hp
theorem tileAll_mem {l : List UInt8} (h : tileAll l = true) {c : UInt8} (hc : c ∈ l) : ∃ p, p < 27 ∧ c = tileB p :=
  (tile_iff c).1 (by unfold tileAll at h; rw [List.all_eq_true] at h; exact h c hc)
theorem tileAll_of {l : List UInt8} (h : ∀ c ∈ l, tileI c.toNat = true) : tileAll l = true := by unfold tileAll; rw [List.all_eq_true]; exact h
theorem tiles_perm {a b : List UInt8} (ha : tileAll a = true) (hb : tileAll b = true) (h : ∀ p, p < 27 → cntOf a p = cntOf b p) : a.Perm b := by
  rw [List.perm_iff_count]
  intro c
  by_cases hc : tileI c.toNat = true
  · obtain ⟨p, hp, rfl⟩ := (tile_iff c).1 hc
    have := h p hp
    rw [cntOf_count a p hp, cntOf_count b p hp] at this
    omega
  · have no : ∀ l : List UInt8, tileAll l = true → l.count c = 0 := by
      intro l hl
      rw [List.count_eq_zero]
      intro hm
      unfold tileAll at hl
      rw [List.all_eq_true] at hl
      exact hc (hl c hm)
    rw [no a ha, no b hb]
theorem pileOf_perm {l : List UInt8} (h : tileAll l = true) : (pileOf (cntOf l)).Perm l :=
  tiles_perm (pileOf_tiles _) h fun p hp => by
    rw [cntOf_count _ p hp, count_pileOf _ p hp]
    have := (cntOf_le l p).1
    omega
theorem cntOf_pileOf (f : Nat → Int) (p : Nat) (hp : p < 27) (h : 0 ≤ f p) : cntOf (pileOf f) p = f p := by
  rw [cntOf_count _ p hp, count_pileOf _ p hp]; omega
theorem pileTo_rises (f : Nat → Int) : ∀ k, k ≤ 27 → Rises (pileTo f k)
  | 0, _ => by simp [pileTo, Rises]
  | k + 1, hk => by
    rw [pileTo_succ]
    refine List.pairwise_append.2 ⟨pileTo_rises f k (by omega), List.pairwise_replicate.2 (.inr (Nat.le_refl _)), ?_⟩
    intro a ha b hb
    obtain ⟨p, hp, rfl, _⟩ := pileTo_mem (show k ≤ 27 by omega) ha
    obtain ⟨_, rfl⟩ := List.mem_replicate.1 hb
    rw [tileB_toNat p (by omega), tileB_toNat k (by omega)]
    split <;> split <;> omega
theorem pileOf_rises (f : Nat → Int) : Rises (pileOf f) := pileTo_rises f 27 (Nat.le_refl _)
theorem rises_unique {a b : List UInt8} (ha : Rises a) (hb : Rises b) (h : a.Perm b) : a = b :=
  List.Perm.eq_of_pairwise (fun _ _ _ _ h1 h2 => UInt8.toNat_inj.1 (Nat.le_antisymm h1 h2)) ha hb h
/-- The one pile of some tiles. -/
theorem pile_unique {L l : List UInt8} (hL : Rises L) (hp : L.Perm l) (ht : tileAll l = true) : L = pileOf (cntOf l) :=
  rises_unique hL (pileOf_rises _) (hp.trans (pileOf_perm ht).symm)
theorem pile_self {l : List UInt8} (hL : Rises l) (ht : tileAll l = true) : pileOf (cntOf l) = l := (pile_unique hL (List.Perm.refl _) ht).symm
theorem pileOf_congr {f g : Nat → Int} (h : ∀ p, p < 27 → f p = g p) : pileOf f = pileOf g := by
  unfold pileOf pileTo
  rw [List.flatMap_def, List.flatMap_def]
  congr 1
  exact List.map_congr_left fun p hp => by rw [h p (by simpa using hp)]
theorem cntOf_append (a b : List UInt8) (p : Nat) : cntOf (a ++ b) p = cntOf a p + cntOf b p := by unfold cntOf; simp
theorem cntOf_perm {a b : List UInt8} (h : a.Perm b) (p : Nat) : cntOf a p = cntOf b p := by
  unfold cntOf; rw [(h.filter _).length_eq]
theorem tileAll_append (a b : List UInt8) : tileAll (a ++ b) = (tileAll a && tileAll b) := by simp [tileAll]
theorem tileAll_perm {a b : List UInt8} (h : a.Perm b) (hb : tileAll b = true) : tileAll a = true := tileAll_of fun c hc => by
  unfold tileAll at hb
  rw [List.all_eq_true] at hb
  exact hb c (h.mem_iff.1 hc)

/-! ### Taking tiles -/
/-- What is left of a without b's elements, met in order, and what is left of b. -/
def takeR : List UInt8 → List UInt8 → List UInt8 × List UInt8
  | [], b => ([], b)
  | x :: a, [] => (x :: (takeR a []).1, [])
  | x :: a, y :: b => if y = x then takeR a b else (x :: (takeR a (y :: b)).1, (takeR a (y :: b)).2)
theorem takeR_nil (a : List UInt8) : takeR a [] = (a, []) := by
  induction a with
  | nil => rfl
  | cons x a ih => rw [takeR, ih]
theorem takeR_sub : ∀ a b : List UInt8, (takeR a b).1.Sublist a
  | [], b => by simp [takeR]
  | x :: a, [] => by rw [takeR_nil]; exact List.Sublist.refl _
  | x :: a, y :: b => by
    rw [takeR]
    split
    · exact (takeR_sub a b).cons x
    · exact (takeR_sub a (y :: b)).cons_cons x
theorem takeR_used : ∀ a b : List UInt8, ∃ used, b = used ++ (takeR a b).2 ∧ ((takeR a b).1 ++ used).Perm a
  | [], b => ⟨[], by simp [takeR], by simp [takeR]⟩
  | x :: a, [] => ⟨[], by rw [takeR_nil]; rfl, by rw [takeR_nil]; simp⟩
  | x :: a, y :: b => by
    rw [takeR]
    split
    · rename_i h
      subst h
      obtain ⟨u, h1, h2⟩ := takeR_used a b
      exact ⟨y :: u, by rw [List.cons_append, ← h1], List.perm_middle.trans (h2.cons y)⟩
    · obtain ⟨u, h1, h2⟩ := takeR_used a (y :: b)
      exact ⟨u, h1, h2.cons x⟩
theorem takeR_all : ∀ a b : List UInt8, Rises a → Rises b → (∀ c, b.count c ≤ a.count c) → (takeR a b).2 = []
  | [], b, _, _, h => by
    cases b with
    | nil => rfl
    | cons y b => have := h y; simp at this
  | x :: a, [], _, _, _ => by rw [takeR_nil]
  | x :: a, y :: b, ha, hb, h => by
    have ha' := List.pairwise_cons.1 ha
    have hb' := List.pairwise_cons.1 hb
    rw [takeR]
    split
    · rename_i hxy
      subst hxy
      refine takeR_all a b ha'.2 hb'.2 fun c => ?_
      have := h c
      rw [List.count_cons, List.count_cons] at this
      omega
    · rename_i hxy
      refine takeR_all a (y :: b) ha'.2 hb fun c => ?_
      have h1 := h c
      have hy : y ∈ a := by
        have h2 := h y
        have h3 : 0 < (x :: a).count y := by rw [List.count_cons_self] at h2; omega
        rcases List.mem_cons.1 (List.count_pos_iff.1 h3) with h4 | h4
        · exact absurd h4 hxy
        · exact h4
      have hlt : x.toNat < y.toNat := by
        have h5 := ha'.1 y hy
        have h6 : x.toNat ≠ y.toNat := fun h7 => hxy (UInt8.toNat_inj.1 h7.symm)
        omega
      rw [List.count_cons (a := c) (b := x)] at h1
      by_cases hc : x = c
      · subst hc
        have : (y :: b).count x = 0 := by
          rw [List.count_eq_zero]
          intro hm
          rcases List.mem_cons.1 hm with h7 | h7
          · exact hxy h7.symm
          · have := hb'.1 x h7; omega
        omega
      · simp only [beq_iff_eq, hc, if_false] at h1
        omega
theorem rises_sub {a b : List UInt8} (h : a.Sublist b) (hb : Rises b) : Rises a := List.Pairwise.sublist h hb
theorem tiles_sub {a b : List UInt8} (h : a.Sublist b) (hb : tileAll b = true) : tileAll a = true := tileAll_of fun c hc => by
  unfold tileAll at hb
  rw [List.all_eq_true] at hb
  exact hb c (h.subset hc)

/-- Counts without others. -/
def subC (f g : Nat → Int) : Nat → Int := fun k => f k - g k
/-- Whether counts contain others, up to a place. -/
def geTo (f g : Nat → Int) (k : Nat) : Prop := ∀ p, p < k → g p ≤ f p

theorem count_le_iff {a b : List UInt8} (_ha : tileAll a = true) (hb : tileAll b = true) : (∀ c, b.count c ≤ a.count c) ↔ geTo (cntOf a) (cntOf b) 27 := by
  constructor
  · intro h p hp
    rw [cntOf_count a p hp, cntOf_count b p hp]
    have := h (tileB p)
    omega
  · intro h c
    by_cases hc : tileI c.toNat = true
    · obtain ⟨p, hp, rfl⟩ := (tile_iff c).1 hc
      have := h p hp
      rw [cntOf_count a p hp, cntOf_count b p hp] at this
      omega
    · have : b.count c = 0 := by
        rw [List.count_eq_zero]
        intro hm
        unfold tileAll at hb
        rw [List.all_eq_true] at hb
        exact hc (hb c hm)
      omega
/-- The reference's take on sorted piles: it succeeds where the counts allow it, and leaves the counts' difference. -/
theorem takeR_ok {a b : List UInt8} (ha : Rises a) (hb : Rises b) (ta : tileAll a = true) (tb : tileAll b = true) (h : geTo (cntOf a) (cntOf b) 27) :
    (takeR a b).2 = [] ∧ (takeR a b).1 = pileOf (subC (cntOf a) (cntOf b)) := by
  have h1 := takeR_all a b ha hb ((count_le_iff ta tb).2 h)
  refine ⟨h1, ?_⟩
  obtain ⟨u, h2, h3⟩ := takeR_used a b
  rw [h1, List.append_nil] at h2
  subst h2
  have hs := takeR_sub a b
  have h4 := pile_self (rises_sub hs ha) (tiles_sub hs ta)
  rw [← h4]
  refine pileOf_congr fun p _ => ?_
  have h5 := cntOf_perm h3 p
  rw [cntOf_append] at h5
  unfold subC
  omega
theorem takeR_no {a b : List UInt8} (ta : tileAll a = true) (tb : tileAll b = true) (h : ¬ geTo (cntOf a) (cntOf b) 27) : (takeR a b).2 ≠ [] := by
  intro h1
  apply h
  obtain ⟨u, h2, h3⟩ := takeR_used a b
  rw [h1, List.append_nil] at h2
  subst h2
  refine (count_le_iff ta tb).1 fun c => ?_
  rw [← h3.count_eq c, List.count_append]
  omega
/-! ### Common tiles -/
/-- The common elements of two sorted lists, met from their heads. -/
def commR : List UInt8 → List UInt8 → List UInt8
  | [], _ => []
  | _ :: _, [] => []
  | x :: a, y :: b => if x.toNat < y.toNat then commR a (y :: b) else if y.toNat < x.toNat then commR (x :: a) b else x :: commR a b
termination_by a b => a.length + b.length
theorem commR_nil (a : List UInt8) : commR a [] = [] := by cases a <;> simp [commR]
theorem commR_sub (n : Nat) : ∀ a b : List UInt8, a.length + b.length ≤ n → (commR a b).Sublist a := by
  induction n with
  | zero => intro a b h; have : a = [] := List.eq_nil_of_length_eq_zero (by omega); subst this; simp [commR]
  | succ n ih =>
    intro a b h
    match a, b with
    | [], b => simp [commR]
    | x :: a, [] => simp [commR]
    | x :: a, y :: b =>
      rw [commR]
      simp at h
      split
      · exact (ih a (y :: b) (by simp; omega)).cons x
      · split
        · exact ih (x :: a) b (by simp; omega)
        · exact (ih a b (by omega)).cons_cons x
theorem count_zero_of_lt {x y : UInt8} {b : List UInt8} (hb : Rises (y :: b)) (h : x.toNat < y.toNat) : (y :: b).count x = 0 := by
  rw [List.count_eq_zero]
  intro hm
  rcases List.mem_cons.1 hm with rfl | h7
  · omega
  · have := (List.pairwise_cons.1 hb).1 x h7; omega
theorem commR_count (n : Nat) : ∀ a b : List UInt8, a.length + b.length ≤ n → Rises a → Rises b → ∀ c, (commR a b).count c = min (a.count c) (b.count c) := by
  induction n with
  | zero => intro a b h _ _ c; have : a = [] := List.eq_nil_of_length_eq_zero (by omega); subst this; simp [commR]
  | succ n ih =>
    intro a b h ha hb c
    match a, b with
    | [], b => simp [commR]
    | x :: a, [] => simp [commR]
    | x :: a, y :: b =>
      have ha' := List.pairwise_cons.1 ha
      have hb' := List.pairwise_cons.1 hb
      rw [commR]
      simp at h
      split
      · rename_i hlt
        rw [ih a (y :: b) (by simp; omega) ha'.2 hb c]
        have := count_zero_of_lt hb hlt
        rw [List.count_cons (a := c) (b := x)]
        by_cases hc : x = c
        · subst hc; omega
        · simp [hc]
      · split
        · rename_i _ hlt
          rw [ih (x :: a) b (by simp; omega) ha hb'.2 c]
          have := count_zero_of_lt ha hlt
          rw [List.count_cons (a := c) (b := y)]
          by_cases hc : y = c
          · subst hc; omega
          · simp [hc]
        · have hxy : x = y := UInt8.toNat_inj.1 (by omega)
          subst hxy
          rw [List.count_cons, List.count_cons, List.count_cons, ih a b (by omega) ha'.2 hb'.2 c]
          split <;> omega
/-- The smaller counts. -/
def minC (f g : Nat → Int) : Nat → Int := fun k => min (f k) (g k)
theorem commR_pile {a b : List UInt8} (ha : Rises a) (hb : Rises b) (ta : tileAll a = true) : commR a b = pileOf (minC (cntOf a) (cntOf b)) := by
  have hs := commR_sub _ a b (Nat.le_refl _)
  have h4 := pile_self (rises_sub hs ha) (tiles_sub hs ta)
  rw [← h4]
  refine pileOf_congr fun p hp => ?_
  unfold minC
  rw [cntOf_count _ p hp, cntOf_count _ p hp, cntOf_count _ p hp, commR_count _ a b (Nat.le_refl _) ha hb]
  omega

/-! ### Making a word -/
/-- How many blanks a word's tiles want, of some counts; what is left of the counts. -/
def needR : (Nat → Int) → List UInt8 → Int
  | _, [] => 0
  | f, c :: r => let p := (placeI c.toNat).toNat
    if 0 < f p then needR (upd f p (f p - 1)) r else 1 + needR f r
end Go.Proofs.YtinmmbnlflmobaaGreatDoor
