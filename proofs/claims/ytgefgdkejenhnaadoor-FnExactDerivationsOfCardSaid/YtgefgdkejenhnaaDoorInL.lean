/- An insertion into an ascending list, plainly. No program is walked. -/
import Derived.Test.YtgefgdkejenhnaaDoorLa
namespace Go.Proofs.YtgefgdkejenhnaaDoor
theorem incLt {l : List ByteArray} (h : IncTo l l.length) : ∀ (d i : Nat), (hd : i + d + 1 < l.length) → Op.bytesLess l[i].toList l[i + d + 1].toList = true
  | 0, i, hd => h i (by omega) hd
  | d + 1, i, hd => bl_trans _ _ _ (incLt h d i (by omega)) (h (i + d + 1) (by omega) hd)
theorem incLt2 {l : List ByteArray} (h : IncTo l l.length) (i j : Nat) (hij : i < j) (hj : j < l.length) : Op.bytesLess l[i].toList l[j].toList = true := by
  obtain ⟨d, rfl⟩ : ∃ d, j = i + d + 1 := ⟨j - i - 1, by omega⟩
  exact incLt h d i hj
theorem blIrr (x : List UInt8) : Op.bytesLess x x = false := by
  rcases bl_tri x x with ⟨h1, h2, _⟩ | ⟨h1, _⟩ | ⟨h1, _⟩
  · rw [h1] at h2; cases h2
  · exact h1
  · exact h1
/-- Strictly ascending strings. -/
def Inc (l : List ByteArray) : Prop := l.Pairwise fun x y => Op.bytesLess x.toList y.toList = true
theorem inc_iff (l : List ByteArray) : Inc l ↔ IncTo l l.length := by
  constructor
  · intro h i _ hi
    exact (List.pairwise_iff_getElem.1 h) i (i + 1) (by omega) hi (by omega)
  · intro h
    exact List.pairwise_iff_getElem.2 fun i j hi hj hij => incLt2 h i j hij hj
theorem inc_incB {l : List ByteArray} (h : Inc l) : incB l = true := (incB_iff l).2 ((inc_iff l).1 h)
theorem lexB_Inc {l : List ByteArray} (h : lexB l = true) : Inc l := (inc_iff l).2 (lexB_inc h)
theorem lexB_of {l : List ByteArray} (h : Inc l) (hl : l.length ≤ 200) (hs : ∀ s ∈ l, isLong s = true) : lexB l = true := by
  simp only [lexB, Bool.and_eq_true, decide_eq_true_eq]
  exact ⟨⟨hl, inc_incB h⟩, List.all_eq_true.2 hs⟩
/-- What an insertion comes to. -/
def InsTo (L : List ByteArray) (t : ByteArray) (L2 : List ByteArray) : Prop :=
  (L2 = L ∧ t ∈ L) ∨ ∃ k, k ≤ L.length ∧ L2 = L.take k ++ t :: L.drop k ∧ (∀ x ∈ L.drop k, Op.bytesLess t.toList x.toList = true) ∧ (∀ (h : 0 < k) (h2 : k - 1 < L.length), Op.bytesLess L[k - 1].toList t.toList = true)
theorem InsTo.mem {L L2 : List ByteArray} {t : ByteArray} (h : InsTo L t L2) (x : ByteArray) : x ∈ L2 ↔ x = t ∨ x ∈ L := by
  rcases h with ⟨rfl, h⟩ | ⟨k, hk, rfl, -, -⟩
  · constructor
    · exact .inr
    · rintro (rfl | h2)
      · exact h
      · exact h2
  · rw [List.mem_append, List.mem_cons]
    constructor
    · rintro (h | h | h)
      · exact .inr (List.mem_of_mem_take h)
      · exact .inl h
      · exact .inr (List.mem_of_mem_drop h)
    · rintro (h | h)
      · exact .inr (.inl h)
      · rw [← List.take_append_drop k L, List.mem_append] at h
        rcases h with h | h
        · exact .inl h
        · exact .inr (.inr h)
theorem InsTo.len {L L2 : List ByteArray} {t : ByteArray} (h : InsTo L t L2) : L.length ≤ L2.length ∧ L2.length ≤ L.length + 1 := by
  rcases h with ⟨rfl, h⟩ | ⟨k, hk, rfl, -, -⟩
  · omega
  · simp; omega
theorem InsTo.pos {L L2 : List ByteArray} {t : ByteArray} (h : InsTo L t L2) : 0 < L2.length := List.length_pos_of_mem ((h.mem t).2 (.inl rfl))
theorem InsTo.inc {L L2 : List ByteArray} {t : ByteArray} (h : InsTo L t L2) (hi : Inc L) : Inc L2 := by
  rcases h with ⟨rfl, h⟩ | ⟨k, hk, rfl, h1, h2⟩
  · exact hi
  · have hs := hi
    unfold Inc at hs
    rw [← List.take_append_drop k L, List.pairwise_append] at hs
    obtain ⟨a1, a2, a3⟩ := hs
    have hpre : ∀ x ∈ L.take k, Op.bytesLess x.toList t.toList = true := fun x hx => by
      obtain ⟨j, hj, rfl⟩ := List.getElem_of_mem hx
      rw [List.length_take] at hj
      rw [List.getElem_take]
      have h3 := h2 (by omega) (by omega)
      by_cases e : j = k - 1
      · subst e; exact h3
      · exact bl_trans _ _ _ ((List.pairwise_iff_getElem.1 hi) j (k - 1) (by omega) (by omega) (by omega)) h3
    refine List.pairwise_append.2 ⟨a1, List.pairwise_cons.2 ⟨fun x hx => h1 x hx, a2⟩, fun x hx y hy => ?_⟩
    rcases List.mem_cons.1 hy with rfl | hy
    · exact hpre x hx
    · exact a3 x hx y hy
/-- Ascending lists with the same members are equal. -/
theorem inc_ext {a b : List ByteArray} (ha : Inc a) (hb : Inc b) (h : ∀ x, x ∈ a ↔ x ∈ b) : a = b := by
  have nd : ∀ {l : List ByteArray}, Inc l → l.Nodup := fun hl => hl.imp fun h e => by subst e; rw [blIrr] at h; cases h
  refine List.Perm.eq_of_pairwise (le := fun (x y : ByteArray) => Op.bytesLess x.toList y.toList = true) ?_ ha hb ((List.perm_ext_iff_of_nodup (nd ha) (nd hb)).2 h)
  intro x y _ _ h1 h2
  have := bl_trans _ _ _ h1 h2
  rw [blIrr] at this; cases this
end Go.Proofs.YtgefgdkejenhnaaDoor
